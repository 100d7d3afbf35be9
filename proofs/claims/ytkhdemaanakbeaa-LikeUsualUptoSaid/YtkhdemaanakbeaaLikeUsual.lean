/- With the usual costs the distance is a whole number, the same both ways, 0 just of the same names, at most the greater length and at least what the lengths ask: the law LikeUsual returns true for every input of the bound. Condition: what is read is of bulk at most 1048576. -/
import Derived.Test.YtkhdemaanakbeaaLj
import Derived.Test.YtkhdemaanakbeaaBk
namespace Go.Proofs.Ytkhdemaanakbeaa
open Go.RowKit Go.Pst Go.ChangeShapes Go.WideShapes Go.ChangeAt Go.Joins Go.Deep
set_option maxRecDepth 100000
set_option linter.unusedSimpArgs false
set_option linter.unusedVariables false

theorem udist_any (n m c d : Nat) (A B : Option Addr) (fa fb : Nat → Int) (w : World) (hA : NameAt w w.heap.size A n fa) (hB : NameAt w w.heap.size B m fb) (hn : n ≤ 1048576) (hm : m ≤ 1048576) :
    Calls Try.prog 13 #[.agg #[.float .f64 4607182418800017408, .float .f64 4607182418800017408, .float .f64 4607182418800017408, .float .f64 4607182418800017408, .slice none 0 0], .slice A n c, .slice B m d] w
      fun en w' => en = .returned (.tuple #[.float .f64 (if wideB n m then 0 else fl (lev fa fb n m)), .int .i64 (if wideB n m then 271 else 0)]) ∧ Below w.heap.size w w' := by
  refine (dist_any _ _ _ _ n m c d 0 0 A B none (fun _ => (0, 0, 0)) fa fb w hA hB hn hm (by omega) (fun h => by omega)).mono ?_
  rintro en w' ⟨u, rfl, h1, h2, hb⟩
  have he : errN (fun _ => ((0 : Int), (0 : Int), (0 : Nat))) 0 n m = if wideB n m then 271 else 0 := by
    unfold errN; rw [if_neg (by decide)]
  rw [he] at h1 h2 ⊢
  refine ⟨?_, hb⟩
  cases hw : wideB n m
  · rw [hw] at h2
    have hu := h2 rfl
    rw [tab_lev _ _ _ _ n m rfl (by omega)] at hu
    have hl := (lev_le fa fb _ n m rfl).1
    have := cn_eq hu (fl_fin (show lev fa fb n m < 2 ^ 53 by omega)).1.2.1
    rw [this]
    simp only [Bool.false_eq_true, if_false]
  · rw [hw] at h1
    rw [h1 (by decide)]
    simp only [if_true]


theorem run_negf (P : Program) (b : Nat) (w : World) : Sem.run P (Op.unary .neg (.float .f64 b)) w = .ok (.float .f64 (Op.negFloat .f64 b)) w := rfl
attribute [local go_sem] run_negf

theorem foi (n : Int) : floatOfInt .f64 n = wrd (decide (n < 0)) (fl n.natAbs) := near_fl n
theorem foi_nat (n : Nat) : floatOfInt .f64 (n : Int) = fl n := by
  rw [foi, decide_eq_false (by omega)]; unfold wrd; simp
theorem neg_wrd (r : Nat) (h : r < 9223372036854775808) : Op.negFloat .f64 (wrd true r) = r := by
  show (wrd true r) ^^^ 2 ^ 63 = r
  unfold wrd
  simp only [if_true]
  apply Nat.eq_of_testBit_eq
  intro i
  rw [Nat.testBit_xor, show (9223372036854775808 : Nat) = 2 ^ 63 from rfl, Nat.testBit_two_pow]
  by_cases hi : i = 63
  · subst hi
    rw [Nat.testBit_two_pow_add_eq, Nat.testBit_lt_two_pow h]; simp
  · rcases Nat.lt_or_ge i 63 with h2 | h2
    · rw [Nat.testBit_two_pow_add_gt h2]
      have h5 : ¬ 63 = i := by omega
      simp [h5]
    · have h3 : r < 2 ^ i := Nat.lt_of_lt_of_le h (Nat.pow_le_pow_right (n := 2) (show 0 < 2 by omega) (show 63 ≤ i by omega))
      have h4 : 2 ^ 63 + r < 2 ^ i := Nat.lt_of_lt_of_le (show 2 ^ 63 + r < 2 ^ 64 by omega) (Nat.pow_le_pow_right (n := 2) (show 0 < 2 by omega) (show 64 ≤ i by omega))
      have h5 : ¬ 63 = i := by omega
      rw [Nat.testBit_lt_two_pow h3, Nat.testBit_lt_two_pow h4]; simp [h5]



set_option maxHeartbeats 2000000 in
theorem usual_ge (n m c d L D X M : Nat) (A B : Option Addr) (fa fb : Nat → Int) (z g1 g2 g3 g4 : Bool) (hmn : m ≤ n) (hn : n ≤ 1048576)
    (w : World) (hA : NameAt w w.heap.size A n fa) (hB : NameAt w w.heap.size B m fb)
        (h1 : ∀ w, NameAt w w.heap.size A n fa → NameAt w w.heap.size B m fb → Calls Try.prog 13 #[.agg #[.float .f64 4607182418800017408, .float .f64 4607182418800017408, .float .f64 4607182418800017408, .float .f64 4607182418800017408, .slice none 0 0], .slice A n c, .slice B m d] w
          fun en w' => en = .returned (.tuple #[.float .f64 D, .int .i64 0]) ∧ Below w.heap.size w w')
        (h2 : ∀ w, NameAt w w.heap.size B m fb → NameAt w w.heap.size A n fa → Calls Try.prog 13 #[.agg #[.float .f64 4607182418800017408, .float .f64 4607182418800017408, .float .f64 4607182418800017408, .float .f64 4607182418800017408, .slice none 0 0], .slice B m d, .slice A n c] w
          fun en w' => en = .returned (.tuple #[.float .f64 D, .int .i64 0]) ∧ Below w.heap.size w w')
        (hw1 : ∀ w, Calls Try.prog 14 #[.slice A n c, .slice B m d] w fun en w' => en = .returned (.bool false) ∧ w = w')
        (hN : ∀ w, NameAt w w.heap.size A n fa → NameAt w w.heap.size B m fb → Calls Try.prog 16 #[.slice A n c, .slice B m d] w fun en w' => en = .returned (.bool z) ∧ Below w.heap.size w w')
        (f1 : feq .f64 D D = true) (f2 : feq .f64 D 0 = z) (f3 : ∀ w, Sem.run Try.prog (convert 23 3 (.float .f64 D)) w = .ok (.int .i64 (L : Int)) w) (f4 : floatOfInt .f64 (L : Int) = D)
    (e1 : floatOfInt .f64 ((n : Int) - m) = X) (e2 : flt .f64 X 0 = false) (e3 : floatOfInt .f64 (n : Int) = M)
    (k1 : fgt .f64 D X = g1) (k2 : feq .f64 D X = g2) (k3 : flt .f64 D M = g3) (k4 : feq .f64 D M = g4) (hg : (g1 || g2) = true) (hg2 : (g3 || g4) = true) :
    Calls Try.prog 3 #[.slice A n c, .slice B m d] w fun en w' => en = .returned (.bool true) ∧ Below w.heap.size w w' := by
  have HA := Lib.hid hA; have HB := Lib.hid hB; have H1 := Lib.hid h1; have H2 := Lib.hid h2; have HW := Lib.hid hw1; have HN := Lib.hid hN
  clear hA hB h1 h2 hw1 hN
  have hx : (m : Int) ≤ (n : Int) := by omega
  cases z <;> cases g1 <;> cases g2 <;> cases g3 <;> cases g4 <;> first | (cases hg; done) | (cases hg2; done) | skip
  all_goals clear hg hg2
  · 
    go_enter Try.func3, Try.ntmps3
    go_wp2_with fail
    refine (usual_any _).mono ?_
    rintro en w2 ⟨rfl, hb2⟩
    have O := (Reg.Own.nil w).keep hb2
    have zz := O.rules
    have HO := Lib.hid O; clear O
    clear hb2
    go_wp2_with fail
    have O := HO.out.alloc rfl #[.float .f64 4607182418800017408, .float .f64 4607182418800017408, .float .f64 4607182418800017408, .float .f64 4607182418800017408, .slice none 0 0] 26
    clear HO zz
    obtain ⟨c0, f0, z0, y0, -, zz⟩ := O.rules
    have HO := Lib.hid O; clear O
    refine (H1.out _ ((HA.out.below HO.out.below (Nat.le_refl _)).more HO.out.size) ((HB.out.below HO.out.below (Nat.le_refl _)).more HO.out.size)).mono ?_
    rintro en wn ⟨rfl, hbn⟩
    have O := HO.out.keep hbn
    clear HO c0 f0 z0 y0 zz
    obtain ⟨c0, f0, z0, y0, -, zz⟩ := O.rules
    have HO := Lib.hid O; clear O
    clear hbn
    go_wp2_with fail
    refine (H2.out _ ((HB.out.below HO.out.below (Nat.le_refl _)).more HO.out.size) ((HA.out.below HO.out.below (Nat.le_refl _)).more HO.out.size)).mono ?_
    rintro en wn ⟨rfl, hbn⟩
    have O := HO.out.keep hbn
    clear HO c0 f0 z0 y0 zz
    obtain ⟨c0, f0, z0, y0, -, zz⟩ := O.rules
    have HO := Lib.hid O; clear O
    clear hbn
    go_wp2_with fail
    refine (HW.out _).mono ?_
    rintro en wn ⟨rfl, rfl⟩
    go_wp2_with fail
    refine (awake_any _).mono ?_
    rintro en wn ⟨rfl, hbn⟩
    have O := HO.out.keep hbn
    clear HO c0 f0 z0 y0 zz
    obtain ⟨c0, f0, z0, y0, -, zz⟩ := O.rules
    have HO := Lib.hid O; clear O
    clear hbn
    go_wp2_with fail
    refine (HN.out _ ((HA.out.below HO.out.below (Nat.le_refl _)).more HO.out.size) ((HB.out.below HO.out.below (Nat.le_refl _)).more HO.out.size)).mono ?_
    rintro en wn ⟨rfl, hbn⟩
    have O := HO.out.keep hbn
    clear HO c0 f0 z0 y0 zz
    obtain ⟨c0, f0, z0, y0, -, zz⟩ := O.rules
    have HO := Lib.hid O; clear O
    clear hbn
    go_wp2_with fail
    go_ret
    exact ⟨rfl, HO.out.below⟩
  · 
    go_enter Try.func3, Try.ntmps3
    go_wp2_with fail
    refine (usual_any _).mono ?_
    rintro en w2 ⟨rfl, hb2⟩
    have O := (Reg.Own.nil w).keep hb2
    have zz := O.rules
    have HO := Lib.hid O; clear O
    clear hb2
    go_wp2_with fail
    have O := HO.out.alloc rfl #[.float .f64 4607182418800017408, .float .f64 4607182418800017408, .float .f64 4607182418800017408, .float .f64 4607182418800017408, .slice none 0 0] 26
    clear HO zz
    obtain ⟨c0, f0, z0, y0, -, zz⟩ := O.rules
    have HO := Lib.hid O; clear O
    refine (H1.out _ ((HA.out.below HO.out.below (Nat.le_refl _)).more HO.out.size) ((HB.out.below HO.out.below (Nat.le_refl _)).more HO.out.size)).mono ?_
    rintro en wn ⟨rfl, hbn⟩
    have O := HO.out.keep hbn
    clear HO c0 f0 z0 y0 zz
    obtain ⟨c0, f0, z0, y0, -, zz⟩ := O.rules
    have HO := Lib.hid O; clear O
    clear hbn
    go_wp2_with fail
    refine (H2.out _ ((HB.out.below HO.out.below (Nat.le_refl _)).more HO.out.size) ((HA.out.below HO.out.below (Nat.le_refl _)).more HO.out.size)).mono ?_
    rintro en wn ⟨rfl, hbn⟩
    have O := HO.out.keep hbn
    clear HO c0 f0 z0 y0 zz
    obtain ⟨c0, f0, z0, y0, -, zz⟩ := O.rules
    have HO := Lib.hid O; clear O
    clear hbn
    go_wp2_with fail
    refine (HW.out _).mono ?_
    rintro en wn ⟨rfl, rfl⟩
    go_wp2_with fail
    refine (awake_any _).mono ?_
    rintro en wn ⟨rfl, hbn⟩
    have O := HO.out.keep hbn
    clear HO c0 f0 z0 y0 zz
    obtain ⟨c0, f0, z0, y0, -, zz⟩ := O.rules
    have HO := Lib.hid O; clear O
    clear hbn
    go_wp2_with fail
    refine (HN.out _ ((HA.out.below HO.out.below (Nat.le_refl _)).more HO.out.size) ((HB.out.below HO.out.below (Nat.le_refl _)).more HO.out.size)).mono ?_
    rintro en wn ⟨rfl, hbn⟩
    have O := HO.out.keep hbn
    clear HO c0 f0 z0 y0 zz
    obtain ⟨c0, f0, z0, y0, -, zz⟩ := O.rules
    have HO := Lib.hid O; clear O
    clear hbn
    go_wp2_with fail
    go_ret
    exact ⟨rfl, HO.out.below⟩
  · 
    go_enter Try.func3, Try.ntmps3
    go_wp2_with fail
    refine (usual_any _).mono ?_
    rintro en w2 ⟨rfl, hb2⟩
    have O := (Reg.Own.nil w).keep hb2
    have zz := O.rules
    have HO := Lib.hid O; clear O
    clear hb2
    go_wp2_with fail
    have O := HO.out.alloc rfl #[.float .f64 4607182418800017408, .float .f64 4607182418800017408, .float .f64 4607182418800017408, .float .f64 4607182418800017408, .slice none 0 0] 26
    clear HO zz
    obtain ⟨c0, f0, z0, y0, -, zz⟩ := O.rules
    have HO := Lib.hid O; clear O
    refine (H1.out _ ((HA.out.below HO.out.below (Nat.le_refl _)).more HO.out.size) ((HB.out.below HO.out.below (Nat.le_refl _)).more HO.out.size)).mono ?_
    rintro en wn ⟨rfl, hbn⟩
    have O := HO.out.keep hbn
    clear HO c0 f0 z0 y0 zz
    obtain ⟨c0, f0, z0, y0, -, zz⟩ := O.rules
    have HO := Lib.hid O; clear O
    clear hbn
    go_wp2_with fail
    refine (H2.out _ ((HB.out.below HO.out.below (Nat.le_refl _)).more HO.out.size) ((HA.out.below HO.out.below (Nat.le_refl _)).more HO.out.size)).mono ?_
    rintro en wn ⟨rfl, hbn⟩
    have O := HO.out.keep hbn
    clear HO c0 f0 z0 y0 zz
    obtain ⟨c0, f0, z0, y0, -, zz⟩ := O.rules
    have HO := Lib.hid O; clear O
    clear hbn
    go_wp2_with fail
    refine (HW.out _).mono ?_
    rintro en wn ⟨rfl, rfl⟩
    go_wp2_with fail
    refine (awake_any _).mono ?_
    rintro en wn ⟨rfl, hbn⟩
    have O := HO.out.keep hbn
    clear HO c0 f0 z0 y0 zz
    obtain ⟨c0, f0, z0, y0, -, zz⟩ := O.rules
    have HO := Lib.hid O; clear O
    clear hbn
    go_wp2_with fail
    refine (HN.out _ ((HA.out.below HO.out.below (Nat.le_refl _)).more HO.out.size) ((HB.out.below HO.out.below (Nat.le_refl _)).more HO.out.size)).mono ?_
    rintro en wn ⟨rfl, hbn⟩
    have O := HO.out.keep hbn
    clear HO c0 f0 z0 y0 zz
    obtain ⟨c0, f0, z0, y0, -, zz⟩ := O.rules
    have HO := Lib.hid O; clear O
    clear hbn
    go_wp2_with fail
    go_ret
    exact ⟨rfl, HO.out.below⟩
  · 
    go_enter Try.func3, Try.ntmps3
    go_wp2_with fail
    refine (usual_any _).mono ?_
    rintro en w2 ⟨rfl, hb2⟩
    have O := (Reg.Own.nil w).keep hb2
    have zz := O.rules
    have HO := Lib.hid O; clear O
    clear hb2
    go_wp2_with fail
    have O := HO.out.alloc rfl #[.float .f64 4607182418800017408, .float .f64 4607182418800017408, .float .f64 4607182418800017408, .float .f64 4607182418800017408, .slice none 0 0] 26
    clear HO zz
    obtain ⟨c0, f0, z0, y0, -, zz⟩ := O.rules
    have HO := Lib.hid O; clear O
    refine (H1.out _ ((HA.out.below HO.out.below (Nat.le_refl _)).more HO.out.size) ((HB.out.below HO.out.below (Nat.le_refl _)).more HO.out.size)).mono ?_
    rintro en wn ⟨rfl, hbn⟩
    have O := HO.out.keep hbn
    clear HO c0 f0 z0 y0 zz
    obtain ⟨c0, f0, z0, y0, -, zz⟩ := O.rules
    have HO := Lib.hid O; clear O
    clear hbn
    go_wp2_with fail
    refine (H2.out _ ((HB.out.below HO.out.below (Nat.le_refl _)).more HO.out.size) ((HA.out.below HO.out.below (Nat.le_refl _)).more HO.out.size)).mono ?_
    rintro en wn ⟨rfl, hbn⟩
    have O := HO.out.keep hbn
    clear HO c0 f0 z0 y0 zz
    obtain ⟨c0, f0, z0, y0, -, zz⟩ := O.rules
    have HO := Lib.hid O; clear O
    clear hbn
    go_wp2_with fail
    refine (HW.out _).mono ?_
    rintro en wn ⟨rfl, rfl⟩
    go_wp2_with fail
    refine (awake_any _).mono ?_
    rintro en wn ⟨rfl, hbn⟩
    have O := HO.out.keep hbn
    clear HO c0 f0 z0 y0 zz
    obtain ⟨c0, f0, z0, y0, -, zz⟩ := O.rules
    have HO := Lib.hid O; clear O
    clear hbn
    go_wp2_with fail
    refine (HN.out _ ((HA.out.below HO.out.below (Nat.le_refl _)).more HO.out.size) ((HB.out.below HO.out.below (Nat.le_refl _)).more HO.out.size)).mono ?_
    rintro en wn ⟨rfl, hbn⟩
    have O := HO.out.keep hbn
    clear HO c0 f0 z0 y0 zz
    obtain ⟨c0, f0, z0, y0, -, zz⟩ := O.rules
    have HO := Lib.hid O; clear O
    clear hbn
    go_wp2_with fail
    go_ret
    exact ⟨rfl, HO.out.below⟩
  · 
    go_enter Try.func3, Try.ntmps3
    go_wp2_with fail
    refine (usual_any _).mono ?_
    rintro en w2 ⟨rfl, hb2⟩
    have O := (Reg.Own.nil w).keep hb2
    have zz := O.rules
    have HO := Lib.hid O; clear O
    clear hb2
    go_wp2_with fail
    have O := HO.out.alloc rfl #[.float .f64 4607182418800017408, .float .f64 4607182418800017408, .float .f64 4607182418800017408, .float .f64 4607182418800017408, .slice none 0 0] 26
    clear HO zz
    obtain ⟨c0, f0, z0, y0, -, zz⟩ := O.rules
    have HO := Lib.hid O; clear O
    refine (H1.out _ ((HA.out.below HO.out.below (Nat.le_refl _)).more HO.out.size) ((HB.out.below HO.out.below (Nat.le_refl _)).more HO.out.size)).mono ?_
    rintro en wn ⟨rfl, hbn⟩
    have O := HO.out.keep hbn
    clear HO c0 f0 z0 y0 zz
    obtain ⟨c0, f0, z0, y0, -, zz⟩ := O.rules
    have HO := Lib.hid O; clear O
    clear hbn
    go_wp2_with fail
    refine (H2.out _ ((HB.out.below HO.out.below (Nat.le_refl _)).more HO.out.size) ((HA.out.below HO.out.below (Nat.le_refl _)).more HO.out.size)).mono ?_
    rintro en wn ⟨rfl, hbn⟩
    have O := HO.out.keep hbn
    clear HO c0 f0 z0 y0 zz
    obtain ⟨c0, f0, z0, y0, -, zz⟩ := O.rules
    have HO := Lib.hid O; clear O
    clear hbn
    go_wp2_with fail
    refine (HW.out _).mono ?_
    rintro en wn ⟨rfl, rfl⟩
    go_wp2_with fail
    refine (awake_any _).mono ?_
    rintro en wn ⟨rfl, hbn⟩
    have O := HO.out.keep hbn
    clear HO c0 f0 z0 y0 zz
    obtain ⟨c0, f0, z0, y0, -, zz⟩ := O.rules
    have HO := Lib.hid O; clear O
    clear hbn
    go_wp2_with fail
    refine (HN.out _ ((HA.out.below HO.out.below (Nat.le_refl _)).more HO.out.size) ((HB.out.below HO.out.below (Nat.le_refl _)).more HO.out.size)).mono ?_
    rintro en wn ⟨rfl, hbn⟩
    have O := HO.out.keep hbn
    clear HO c0 f0 z0 y0 zz
    obtain ⟨c0, f0, z0, y0, -, zz⟩ := O.rules
    have HO := Lib.hid O; clear O
    clear hbn
    go_wp2_with fail
    go_ret
    exact ⟨rfl, HO.out.below⟩
  · 
    go_enter Try.func3, Try.ntmps3
    go_wp2_with fail
    refine (usual_any _).mono ?_
    rintro en w2 ⟨rfl, hb2⟩
    have O := (Reg.Own.nil w).keep hb2
    have zz := O.rules
    have HO := Lib.hid O; clear O
    clear hb2
    go_wp2_with fail
    have O := HO.out.alloc rfl #[.float .f64 4607182418800017408, .float .f64 4607182418800017408, .float .f64 4607182418800017408, .float .f64 4607182418800017408, .slice none 0 0] 26
    clear HO zz
    obtain ⟨c0, f0, z0, y0, -, zz⟩ := O.rules
    have HO := Lib.hid O; clear O
    refine (H1.out _ ((HA.out.below HO.out.below (Nat.le_refl _)).more HO.out.size) ((HB.out.below HO.out.below (Nat.le_refl _)).more HO.out.size)).mono ?_
    rintro en wn ⟨rfl, hbn⟩
    have O := HO.out.keep hbn
    clear HO c0 f0 z0 y0 zz
    obtain ⟨c0, f0, z0, y0, -, zz⟩ := O.rules
    have HO := Lib.hid O; clear O
    clear hbn
    go_wp2_with fail
    refine (H2.out _ ((HB.out.below HO.out.below (Nat.le_refl _)).more HO.out.size) ((HA.out.below HO.out.below (Nat.le_refl _)).more HO.out.size)).mono ?_
    rintro en wn ⟨rfl, hbn⟩
    have O := HO.out.keep hbn
    clear HO c0 f0 z0 y0 zz
    obtain ⟨c0, f0, z0, y0, -, zz⟩ := O.rules
    have HO := Lib.hid O; clear O
    clear hbn
    go_wp2_with fail
    refine (HW.out _).mono ?_
    rintro en wn ⟨rfl, rfl⟩
    go_wp2_with fail
    refine (awake_any _).mono ?_
    rintro en wn ⟨rfl, hbn⟩
    have O := HO.out.keep hbn
    clear HO c0 f0 z0 y0 zz
    obtain ⟨c0, f0, z0, y0, -, zz⟩ := O.rules
    have HO := Lib.hid O; clear O
    clear hbn
    go_wp2_with fail
    refine (HN.out _ ((HA.out.below HO.out.below (Nat.le_refl _)).more HO.out.size) ((HB.out.below HO.out.below (Nat.le_refl _)).more HO.out.size)).mono ?_
    rintro en wn ⟨rfl, hbn⟩
    have O := HO.out.keep hbn
    clear HO c0 f0 z0 y0 zz
    obtain ⟨c0, f0, z0, y0, -, zz⟩ := O.rules
    have HO := Lib.hid O; clear O
    clear hbn
    go_wp2_with fail
    go_ret
    exact ⟨rfl, HO.out.below⟩
  · 
    go_enter Try.func3, Try.ntmps3
    go_wp2_with fail
    refine (usual_any _).mono ?_
    rintro en w2 ⟨rfl, hb2⟩
    have O := (Reg.Own.nil w).keep hb2
    have zz := O.rules
    have HO := Lib.hid O; clear O
    clear hb2
    go_wp2_with fail
    have O := HO.out.alloc rfl #[.float .f64 4607182418800017408, .float .f64 4607182418800017408, .float .f64 4607182418800017408, .float .f64 4607182418800017408, .slice none 0 0] 26
    clear HO zz
    obtain ⟨c0, f0, z0, y0, -, zz⟩ := O.rules
    have HO := Lib.hid O; clear O
    refine (H1.out _ ((HA.out.below HO.out.below (Nat.le_refl _)).more HO.out.size) ((HB.out.below HO.out.below (Nat.le_refl _)).more HO.out.size)).mono ?_
    rintro en wn ⟨rfl, hbn⟩
    have O := HO.out.keep hbn
    clear HO c0 f0 z0 y0 zz
    obtain ⟨c0, f0, z0, y0, -, zz⟩ := O.rules
    have HO := Lib.hid O; clear O
    clear hbn
    go_wp2_with fail
    refine (H2.out _ ((HB.out.below HO.out.below (Nat.le_refl _)).more HO.out.size) ((HA.out.below HO.out.below (Nat.le_refl _)).more HO.out.size)).mono ?_
    rintro en wn ⟨rfl, hbn⟩
    have O := HO.out.keep hbn
    clear HO c0 f0 z0 y0 zz
    obtain ⟨c0, f0, z0, y0, -, zz⟩ := O.rules
    have HO := Lib.hid O; clear O
    clear hbn
    go_wp2_with fail
    refine (HW.out _).mono ?_
    rintro en wn ⟨rfl, rfl⟩
    go_wp2_with fail
    refine (awake_any _).mono ?_
    rintro en wn ⟨rfl, hbn⟩
    have O := HO.out.keep hbn
    clear HO c0 f0 z0 y0 zz
    obtain ⟨c0, f0, z0, y0, -, zz⟩ := O.rules
    have HO := Lib.hid O; clear O
    clear hbn
    go_wp2_with fail
    refine (HN.out _ ((HA.out.below HO.out.below (Nat.le_refl _)).more HO.out.size) ((HB.out.below HO.out.below (Nat.le_refl _)).more HO.out.size)).mono ?_
    rintro en wn ⟨rfl, hbn⟩
    have O := HO.out.keep hbn
    clear HO c0 f0 z0 y0 zz
    obtain ⟨c0, f0, z0, y0, -, zz⟩ := O.rules
    have HO := Lib.hid O; clear O
    clear hbn
    go_wp2_with fail
    go_ret
    exact ⟨rfl, HO.out.below⟩
  · 
    go_enter Try.func3, Try.ntmps3
    go_wp2_with fail
    refine (usual_any _).mono ?_
    rintro en w2 ⟨rfl, hb2⟩
    have O := (Reg.Own.nil w).keep hb2
    have zz := O.rules
    have HO := Lib.hid O; clear O
    clear hb2
    go_wp2_with fail
    have O := HO.out.alloc rfl #[.float .f64 4607182418800017408, .float .f64 4607182418800017408, .float .f64 4607182418800017408, .float .f64 4607182418800017408, .slice none 0 0] 26
    clear HO zz
    obtain ⟨c0, f0, z0, y0, -, zz⟩ := O.rules
    have HO := Lib.hid O; clear O
    refine (H1.out _ ((HA.out.below HO.out.below (Nat.le_refl _)).more HO.out.size) ((HB.out.below HO.out.below (Nat.le_refl _)).more HO.out.size)).mono ?_
    rintro en wn ⟨rfl, hbn⟩
    have O := HO.out.keep hbn
    clear HO c0 f0 z0 y0 zz
    obtain ⟨c0, f0, z0, y0, -, zz⟩ := O.rules
    have HO := Lib.hid O; clear O
    clear hbn
    go_wp2_with fail
    refine (H2.out _ ((HB.out.below HO.out.below (Nat.le_refl _)).more HO.out.size) ((HA.out.below HO.out.below (Nat.le_refl _)).more HO.out.size)).mono ?_
    rintro en wn ⟨rfl, hbn⟩
    have O := HO.out.keep hbn
    clear HO c0 f0 z0 y0 zz
    obtain ⟨c0, f0, z0, y0, -, zz⟩ := O.rules
    have HO := Lib.hid O; clear O
    clear hbn
    go_wp2_with fail
    refine (HW.out _).mono ?_
    rintro en wn ⟨rfl, rfl⟩
    go_wp2_with fail
    refine (awake_any _).mono ?_
    rintro en wn ⟨rfl, hbn⟩
    have O := HO.out.keep hbn
    clear HO c0 f0 z0 y0 zz
    obtain ⟨c0, f0, z0, y0, -, zz⟩ := O.rules
    have HO := Lib.hid O; clear O
    clear hbn
    go_wp2_with fail
    refine (HN.out _ ((HA.out.below HO.out.below (Nat.le_refl _)).more HO.out.size) ((HB.out.below HO.out.below (Nat.le_refl _)).more HO.out.size)).mono ?_
    rintro en wn ⟨rfl, hbn⟩
    have O := HO.out.keep hbn
    clear HO c0 f0 z0 y0 zz
    obtain ⟨c0, f0, z0, y0, -, zz⟩ := O.rules
    have HO := Lib.hid O; clear O
    clear hbn
    go_wp2_with fail
    go_ret
    exact ⟨rfl, HO.out.below⟩
  · 
    go_enter Try.func3, Try.ntmps3
    go_wp2_with fail
    refine (usual_any _).mono ?_
    rintro en w2 ⟨rfl, hb2⟩
    have O := (Reg.Own.nil w).keep hb2
    have zz := O.rules
    have HO := Lib.hid O; clear O
    clear hb2
    go_wp2_with fail
    have O := HO.out.alloc rfl #[.float .f64 4607182418800017408, .float .f64 4607182418800017408, .float .f64 4607182418800017408, .float .f64 4607182418800017408, .slice none 0 0] 26
    clear HO zz
    obtain ⟨c0, f0, z0, y0, -, zz⟩ := O.rules
    have HO := Lib.hid O; clear O
    refine (H1.out _ ((HA.out.below HO.out.below (Nat.le_refl _)).more HO.out.size) ((HB.out.below HO.out.below (Nat.le_refl _)).more HO.out.size)).mono ?_
    rintro en wn ⟨rfl, hbn⟩
    have O := HO.out.keep hbn
    clear HO c0 f0 z0 y0 zz
    obtain ⟨c0, f0, z0, y0, -, zz⟩ := O.rules
    have HO := Lib.hid O; clear O
    clear hbn
    go_wp2_with fail
    refine (H2.out _ ((HB.out.below HO.out.below (Nat.le_refl _)).more HO.out.size) ((HA.out.below HO.out.below (Nat.le_refl _)).more HO.out.size)).mono ?_
    rintro en wn ⟨rfl, hbn⟩
    have O := HO.out.keep hbn
    clear HO c0 f0 z0 y0 zz
    obtain ⟨c0, f0, z0, y0, -, zz⟩ := O.rules
    have HO := Lib.hid O; clear O
    clear hbn
    go_wp2_with fail
    refine (HW.out _).mono ?_
    rintro en wn ⟨rfl, rfl⟩
    go_wp2_with fail
    refine (awake_any _).mono ?_
    rintro en wn ⟨rfl, hbn⟩
    have O := HO.out.keep hbn
    clear HO c0 f0 z0 y0 zz
    obtain ⟨c0, f0, z0, y0, -, zz⟩ := O.rules
    have HO := Lib.hid O; clear O
    clear hbn
    go_wp2_with fail
    refine (HN.out _ ((HA.out.below HO.out.below (Nat.le_refl _)).more HO.out.size) ((HB.out.below HO.out.below (Nat.le_refl _)).more HO.out.size)).mono ?_
    rintro en wn ⟨rfl, hbn⟩
    have O := HO.out.keep hbn
    clear HO c0 f0 z0 y0 zz
    obtain ⟨c0, f0, z0, y0, -, zz⟩ := O.rules
    have HO := Lib.hid O; clear O
    clear hbn
    go_wp2_with fail
    go_ret
    exact ⟨rfl, HO.out.below⟩
  · 
    go_enter Try.func3, Try.ntmps3
    go_wp2_with fail
    refine (usual_any _).mono ?_
    rintro en w2 ⟨rfl, hb2⟩
    have O := (Reg.Own.nil w).keep hb2
    have zz := O.rules
    have HO := Lib.hid O; clear O
    clear hb2
    go_wp2_with fail
    have O := HO.out.alloc rfl #[.float .f64 4607182418800017408, .float .f64 4607182418800017408, .float .f64 4607182418800017408, .float .f64 4607182418800017408, .slice none 0 0] 26
    clear HO zz
    obtain ⟨c0, f0, z0, y0, -, zz⟩ := O.rules
    have HO := Lib.hid O; clear O
    refine (H1.out _ ((HA.out.below HO.out.below (Nat.le_refl _)).more HO.out.size) ((HB.out.below HO.out.below (Nat.le_refl _)).more HO.out.size)).mono ?_
    rintro en wn ⟨rfl, hbn⟩
    have O := HO.out.keep hbn
    clear HO c0 f0 z0 y0 zz
    obtain ⟨c0, f0, z0, y0, -, zz⟩ := O.rules
    have HO := Lib.hid O; clear O
    clear hbn
    go_wp2_with fail
    refine (H2.out _ ((HB.out.below HO.out.below (Nat.le_refl _)).more HO.out.size) ((HA.out.below HO.out.below (Nat.le_refl _)).more HO.out.size)).mono ?_
    rintro en wn ⟨rfl, hbn⟩
    have O := HO.out.keep hbn
    clear HO c0 f0 z0 y0 zz
    obtain ⟨c0, f0, z0, y0, -, zz⟩ := O.rules
    have HO := Lib.hid O; clear O
    clear hbn
    go_wp2_with fail
    refine (HW.out _).mono ?_
    rintro en wn ⟨rfl, rfl⟩
    go_wp2_with fail
    refine (awake_any _).mono ?_
    rintro en wn ⟨rfl, hbn⟩
    have O := HO.out.keep hbn
    clear HO c0 f0 z0 y0 zz
    obtain ⟨c0, f0, z0, y0, -, zz⟩ := O.rules
    have HO := Lib.hid O; clear O
    clear hbn
    go_wp2_with fail
    refine (HN.out _ ((HA.out.below HO.out.below (Nat.le_refl _)).more HO.out.size) ((HB.out.below HO.out.below (Nat.le_refl _)).more HO.out.size)).mono ?_
    rintro en wn ⟨rfl, hbn⟩
    have O := HO.out.keep hbn
    clear HO c0 f0 z0 y0 zz
    obtain ⟨c0, f0, z0, y0, -, zz⟩ := O.rules
    have HO := Lib.hid O; clear O
    clear hbn
    go_wp2_with fail
    go_ret
    exact ⟨rfl, HO.out.below⟩
  · 
    go_enter Try.func3, Try.ntmps3
    go_wp2_with fail
    refine (usual_any _).mono ?_
    rintro en w2 ⟨rfl, hb2⟩
    have O := (Reg.Own.nil w).keep hb2
    have zz := O.rules
    have HO := Lib.hid O; clear O
    clear hb2
    go_wp2_with fail
    have O := HO.out.alloc rfl #[.float .f64 4607182418800017408, .float .f64 4607182418800017408, .float .f64 4607182418800017408, .float .f64 4607182418800017408, .slice none 0 0] 26
    clear HO zz
    obtain ⟨c0, f0, z0, y0, -, zz⟩ := O.rules
    have HO := Lib.hid O; clear O
    refine (H1.out _ ((HA.out.below HO.out.below (Nat.le_refl _)).more HO.out.size) ((HB.out.below HO.out.below (Nat.le_refl _)).more HO.out.size)).mono ?_
    rintro en wn ⟨rfl, hbn⟩
    have O := HO.out.keep hbn
    clear HO c0 f0 z0 y0 zz
    obtain ⟨c0, f0, z0, y0, -, zz⟩ := O.rules
    have HO := Lib.hid O; clear O
    clear hbn
    go_wp2_with fail
    refine (H2.out _ ((HB.out.below HO.out.below (Nat.le_refl _)).more HO.out.size) ((HA.out.below HO.out.below (Nat.le_refl _)).more HO.out.size)).mono ?_
    rintro en wn ⟨rfl, hbn⟩
    have O := HO.out.keep hbn
    clear HO c0 f0 z0 y0 zz
    obtain ⟨c0, f0, z0, y0, -, zz⟩ := O.rules
    have HO := Lib.hid O; clear O
    clear hbn
    go_wp2_with fail
    refine (HW.out _).mono ?_
    rintro en wn ⟨rfl, rfl⟩
    go_wp2_with fail
    refine (awake_any _).mono ?_
    rintro en wn ⟨rfl, hbn⟩
    have O := HO.out.keep hbn
    clear HO c0 f0 z0 y0 zz
    obtain ⟨c0, f0, z0, y0, -, zz⟩ := O.rules
    have HO := Lib.hid O; clear O
    clear hbn
    go_wp2_with fail
    refine (HN.out _ ((HA.out.below HO.out.below (Nat.le_refl _)).more HO.out.size) ((HB.out.below HO.out.below (Nat.le_refl _)).more HO.out.size)).mono ?_
    rintro en wn ⟨rfl, hbn⟩
    have O := HO.out.keep hbn
    clear HO c0 f0 z0 y0 zz
    obtain ⟨c0, f0, z0, y0, -, zz⟩ := O.rules
    have HO := Lib.hid O; clear O
    clear hbn
    go_wp2_with fail
    go_ret
    exact ⟨rfl, HO.out.below⟩
  · 
    go_enter Try.func3, Try.ntmps3
    go_wp2_with fail
    refine (usual_any _).mono ?_
    rintro en w2 ⟨rfl, hb2⟩
    have O := (Reg.Own.nil w).keep hb2
    have zz := O.rules
    have HO := Lib.hid O; clear O
    clear hb2
    go_wp2_with fail
    have O := HO.out.alloc rfl #[.float .f64 4607182418800017408, .float .f64 4607182418800017408, .float .f64 4607182418800017408, .float .f64 4607182418800017408, .slice none 0 0] 26
    clear HO zz
    obtain ⟨c0, f0, z0, y0, -, zz⟩ := O.rules
    have HO := Lib.hid O; clear O
    refine (H1.out _ ((HA.out.below HO.out.below (Nat.le_refl _)).more HO.out.size) ((HB.out.below HO.out.below (Nat.le_refl _)).more HO.out.size)).mono ?_
    rintro en wn ⟨rfl, hbn⟩
    have O := HO.out.keep hbn
    clear HO c0 f0 z0 y0 zz
    obtain ⟨c0, f0, z0, y0, -, zz⟩ := O.rules
    have HO := Lib.hid O; clear O
    clear hbn
    go_wp2_with fail
    refine (H2.out _ ((HB.out.below HO.out.below (Nat.le_refl _)).more HO.out.size) ((HA.out.below HO.out.below (Nat.le_refl _)).more HO.out.size)).mono ?_
    rintro en wn ⟨rfl, hbn⟩
    have O := HO.out.keep hbn
    clear HO c0 f0 z0 y0 zz
    obtain ⟨c0, f0, z0, y0, -, zz⟩ := O.rules
    have HO := Lib.hid O; clear O
    clear hbn
    go_wp2_with fail
    refine (HW.out _).mono ?_
    rintro en wn ⟨rfl, rfl⟩
    go_wp2_with fail
    refine (awake_any _).mono ?_
    rintro en wn ⟨rfl, hbn⟩
    have O := HO.out.keep hbn
    clear HO c0 f0 z0 y0 zz
    obtain ⟨c0, f0, z0, y0, -, zz⟩ := O.rules
    have HO := Lib.hid O; clear O
    clear hbn
    go_wp2_with fail
    refine (HN.out _ ((HA.out.below HO.out.below (Nat.le_refl _)).more HO.out.size) ((HB.out.below HO.out.below (Nat.le_refl _)).more HO.out.size)).mono ?_
    rintro en wn ⟨rfl, hbn⟩
    have O := HO.out.keep hbn
    clear HO c0 f0 z0 y0 zz
    obtain ⟨c0, f0, z0, y0, -, zz⟩ := O.rules
    have HO := Lib.hid O; clear O
    clear hbn
    go_wp2_with fail
    go_ret
    exact ⟨rfl, HO.out.below⟩
  · 
    go_enter Try.func3, Try.ntmps3
    go_wp2_with fail
    refine (usual_any _).mono ?_
    rintro en w2 ⟨rfl, hb2⟩
    have O := (Reg.Own.nil w).keep hb2
    have zz := O.rules
    have HO := Lib.hid O; clear O
    clear hb2
    go_wp2_with fail
    have O := HO.out.alloc rfl #[.float .f64 4607182418800017408, .float .f64 4607182418800017408, .float .f64 4607182418800017408, .float .f64 4607182418800017408, .slice none 0 0] 26
    clear HO zz
    obtain ⟨c0, f0, z0, y0, -, zz⟩ := O.rules
    have HO := Lib.hid O; clear O
    refine (H1.out _ ((HA.out.below HO.out.below (Nat.le_refl _)).more HO.out.size) ((HB.out.below HO.out.below (Nat.le_refl _)).more HO.out.size)).mono ?_
    rintro en wn ⟨rfl, hbn⟩
    have O := HO.out.keep hbn
    clear HO c0 f0 z0 y0 zz
    obtain ⟨c0, f0, z0, y0, -, zz⟩ := O.rules
    have HO := Lib.hid O; clear O
    clear hbn
    go_wp2_with fail
    refine (H2.out _ ((HB.out.below HO.out.below (Nat.le_refl _)).more HO.out.size) ((HA.out.below HO.out.below (Nat.le_refl _)).more HO.out.size)).mono ?_
    rintro en wn ⟨rfl, hbn⟩
    have O := HO.out.keep hbn
    clear HO c0 f0 z0 y0 zz
    obtain ⟨c0, f0, z0, y0, -, zz⟩ := O.rules
    have HO := Lib.hid O; clear O
    clear hbn
    go_wp2_with fail
    refine (HW.out _).mono ?_
    rintro en wn ⟨rfl, rfl⟩
    go_wp2_with fail
    refine (awake_any _).mono ?_
    rintro en wn ⟨rfl, hbn⟩
    have O := HO.out.keep hbn
    clear HO c0 f0 z0 y0 zz
    obtain ⟨c0, f0, z0, y0, -, zz⟩ := O.rules
    have HO := Lib.hid O; clear O
    clear hbn
    go_wp2_with fail
    refine (HN.out _ ((HA.out.below HO.out.below (Nat.le_refl _)).more HO.out.size) ((HB.out.below HO.out.below (Nat.le_refl _)).more HO.out.size)).mono ?_
    rintro en wn ⟨rfl, hbn⟩
    have O := HO.out.keep hbn
    clear HO c0 f0 z0 y0 zz
    obtain ⟨c0, f0, z0, y0, -, zz⟩ := O.rules
    have HO := Lib.hid O; clear O
    clear hbn
    go_wp2_with fail
    go_ret
    exact ⟨rfl, HO.out.below⟩
  · 
    go_enter Try.func3, Try.ntmps3
    go_wp2_with fail
    refine (usual_any _).mono ?_
    rintro en w2 ⟨rfl, hb2⟩
    have O := (Reg.Own.nil w).keep hb2
    have zz := O.rules
    have HO := Lib.hid O; clear O
    clear hb2
    go_wp2_with fail
    have O := HO.out.alloc rfl #[.float .f64 4607182418800017408, .float .f64 4607182418800017408, .float .f64 4607182418800017408, .float .f64 4607182418800017408, .slice none 0 0] 26
    clear HO zz
    obtain ⟨c0, f0, z0, y0, -, zz⟩ := O.rules
    have HO := Lib.hid O; clear O
    refine (H1.out _ ((HA.out.below HO.out.below (Nat.le_refl _)).more HO.out.size) ((HB.out.below HO.out.below (Nat.le_refl _)).more HO.out.size)).mono ?_
    rintro en wn ⟨rfl, hbn⟩
    have O := HO.out.keep hbn
    clear HO c0 f0 z0 y0 zz
    obtain ⟨c0, f0, z0, y0, -, zz⟩ := O.rules
    have HO := Lib.hid O; clear O
    clear hbn
    go_wp2_with fail
    refine (H2.out _ ((HB.out.below HO.out.below (Nat.le_refl _)).more HO.out.size) ((HA.out.below HO.out.below (Nat.le_refl _)).more HO.out.size)).mono ?_
    rintro en wn ⟨rfl, hbn⟩
    have O := HO.out.keep hbn
    clear HO c0 f0 z0 y0 zz
    obtain ⟨c0, f0, z0, y0, -, zz⟩ := O.rules
    have HO := Lib.hid O; clear O
    clear hbn
    go_wp2_with fail
    refine (HW.out _).mono ?_
    rintro en wn ⟨rfl, rfl⟩
    go_wp2_with fail
    refine (awake_any _).mono ?_
    rintro en wn ⟨rfl, hbn⟩
    have O := HO.out.keep hbn
    clear HO c0 f0 z0 y0 zz
    obtain ⟨c0, f0, z0, y0, -, zz⟩ := O.rules
    have HO := Lib.hid O; clear O
    clear hbn
    go_wp2_with fail
    refine (HN.out _ ((HA.out.below HO.out.below (Nat.le_refl _)).more HO.out.size) ((HB.out.below HO.out.below (Nat.le_refl _)).more HO.out.size)).mono ?_
    rintro en wn ⟨rfl, hbn⟩
    have O := HO.out.keep hbn
    clear HO c0 f0 z0 y0 zz
    obtain ⟨c0, f0, z0, y0, -, zz⟩ := O.rules
    have HO := Lib.hid O; clear O
    clear hbn
    go_wp2_with fail
    go_ret
    exact ⟨rfl, HO.out.below⟩
  · 
    go_enter Try.func3, Try.ntmps3
    go_wp2_with fail
    refine (usual_any _).mono ?_
    rintro en w2 ⟨rfl, hb2⟩
    have O := (Reg.Own.nil w).keep hb2
    have zz := O.rules
    have HO := Lib.hid O; clear O
    clear hb2
    go_wp2_with fail
    have O := HO.out.alloc rfl #[.float .f64 4607182418800017408, .float .f64 4607182418800017408, .float .f64 4607182418800017408, .float .f64 4607182418800017408, .slice none 0 0] 26
    clear HO zz
    obtain ⟨c0, f0, z0, y0, -, zz⟩ := O.rules
    have HO := Lib.hid O; clear O
    refine (H1.out _ ((HA.out.below HO.out.below (Nat.le_refl _)).more HO.out.size) ((HB.out.below HO.out.below (Nat.le_refl _)).more HO.out.size)).mono ?_
    rintro en wn ⟨rfl, hbn⟩
    have O := HO.out.keep hbn
    clear HO c0 f0 z0 y0 zz
    obtain ⟨c0, f0, z0, y0, -, zz⟩ := O.rules
    have HO := Lib.hid O; clear O
    clear hbn
    go_wp2_with fail
    refine (H2.out _ ((HB.out.below HO.out.below (Nat.le_refl _)).more HO.out.size) ((HA.out.below HO.out.below (Nat.le_refl _)).more HO.out.size)).mono ?_
    rintro en wn ⟨rfl, hbn⟩
    have O := HO.out.keep hbn
    clear HO c0 f0 z0 y0 zz
    obtain ⟨c0, f0, z0, y0, -, zz⟩ := O.rules
    have HO := Lib.hid O; clear O
    clear hbn
    go_wp2_with fail
    refine (HW.out _).mono ?_
    rintro en wn ⟨rfl, rfl⟩
    go_wp2_with fail
    refine (awake_any _).mono ?_
    rintro en wn ⟨rfl, hbn⟩
    have O := HO.out.keep hbn
    clear HO c0 f0 z0 y0 zz
    obtain ⟨c0, f0, z0, y0, -, zz⟩ := O.rules
    have HO := Lib.hid O; clear O
    clear hbn
    go_wp2_with fail
    refine (HN.out _ ((HA.out.below HO.out.below (Nat.le_refl _)).more HO.out.size) ((HB.out.below HO.out.below (Nat.le_refl _)).more HO.out.size)).mono ?_
    rintro en wn ⟨rfl, hbn⟩
    have O := HO.out.keep hbn
    clear HO c0 f0 z0 y0 zz
    obtain ⟨c0, f0, z0, y0, -, zz⟩ := O.rules
    have HO := Lib.hid O; clear O
    clear hbn
    go_wp2_with fail
    go_ret
    exact ⟨rfl, HO.out.below⟩
  · 
    go_enter Try.func3, Try.ntmps3
    go_wp2_with fail
    refine (usual_any _).mono ?_
    rintro en w2 ⟨rfl, hb2⟩
    have O := (Reg.Own.nil w).keep hb2
    have zz := O.rules
    have HO := Lib.hid O; clear O
    clear hb2
    go_wp2_with fail
    have O := HO.out.alloc rfl #[.float .f64 4607182418800017408, .float .f64 4607182418800017408, .float .f64 4607182418800017408, .float .f64 4607182418800017408, .slice none 0 0] 26
    clear HO zz
    obtain ⟨c0, f0, z0, y0, -, zz⟩ := O.rules
    have HO := Lib.hid O; clear O
    refine (H1.out _ ((HA.out.below HO.out.below (Nat.le_refl _)).more HO.out.size) ((HB.out.below HO.out.below (Nat.le_refl _)).more HO.out.size)).mono ?_
    rintro en wn ⟨rfl, hbn⟩
    have O := HO.out.keep hbn
    clear HO c0 f0 z0 y0 zz
    obtain ⟨c0, f0, z0, y0, -, zz⟩ := O.rules
    have HO := Lib.hid O; clear O
    clear hbn
    go_wp2_with fail
    refine (H2.out _ ((HB.out.below HO.out.below (Nat.le_refl _)).more HO.out.size) ((HA.out.below HO.out.below (Nat.le_refl _)).more HO.out.size)).mono ?_
    rintro en wn ⟨rfl, hbn⟩
    have O := HO.out.keep hbn
    clear HO c0 f0 z0 y0 zz
    obtain ⟨c0, f0, z0, y0, -, zz⟩ := O.rules
    have HO := Lib.hid O; clear O
    clear hbn
    go_wp2_with fail
    refine (HW.out _).mono ?_
    rintro en wn ⟨rfl, rfl⟩
    go_wp2_with fail
    refine (awake_any _).mono ?_
    rintro en wn ⟨rfl, hbn⟩
    have O := HO.out.keep hbn
    clear HO c0 f0 z0 y0 zz
    obtain ⟨c0, f0, z0, y0, -, zz⟩ := O.rules
    have HO := Lib.hid O; clear O
    clear hbn
    go_wp2_with fail
    refine (HN.out _ ((HA.out.below HO.out.below (Nat.le_refl _)).more HO.out.size) ((HB.out.below HO.out.below (Nat.le_refl _)).more HO.out.size)).mono ?_
    rintro en wn ⟨rfl, hbn⟩
    have O := HO.out.keep hbn
    clear HO c0 f0 z0 y0 zz
    obtain ⟨c0, f0, z0, y0, -, zz⟩ := O.rules
    have HO := Lib.hid O; clear O
    clear hbn
    go_wp2_with fail
    go_ret
    exact ⟨rfl, HO.out.below⟩
  · 
    go_enter Try.func3, Try.ntmps3
    go_wp2_with fail
    refine (usual_any _).mono ?_
    rintro en w2 ⟨rfl, hb2⟩
    have O := (Reg.Own.nil w).keep hb2
    have zz := O.rules
    have HO := Lib.hid O; clear O
    clear hb2
    go_wp2_with fail
    have O := HO.out.alloc rfl #[.float .f64 4607182418800017408, .float .f64 4607182418800017408, .float .f64 4607182418800017408, .float .f64 4607182418800017408, .slice none 0 0] 26
    clear HO zz
    obtain ⟨c0, f0, z0, y0, -, zz⟩ := O.rules
    have HO := Lib.hid O; clear O
    refine (H1.out _ ((HA.out.below HO.out.below (Nat.le_refl _)).more HO.out.size) ((HB.out.below HO.out.below (Nat.le_refl _)).more HO.out.size)).mono ?_
    rintro en wn ⟨rfl, hbn⟩
    have O := HO.out.keep hbn
    clear HO c0 f0 z0 y0 zz
    obtain ⟨c0, f0, z0, y0, -, zz⟩ := O.rules
    have HO := Lib.hid O; clear O
    clear hbn
    go_wp2_with fail
    refine (H2.out _ ((HB.out.below HO.out.below (Nat.le_refl _)).more HO.out.size) ((HA.out.below HO.out.below (Nat.le_refl _)).more HO.out.size)).mono ?_
    rintro en wn ⟨rfl, hbn⟩
    have O := HO.out.keep hbn
    clear HO c0 f0 z0 y0 zz
    obtain ⟨c0, f0, z0, y0, -, zz⟩ := O.rules
    have HO := Lib.hid O; clear O
    clear hbn
    go_wp2_with fail
    refine (HW.out _).mono ?_
    rintro en wn ⟨rfl, rfl⟩
    go_wp2_with fail
    refine (awake_any _).mono ?_
    rintro en wn ⟨rfl, hbn⟩
    have O := HO.out.keep hbn
    clear HO c0 f0 z0 y0 zz
    obtain ⟨c0, f0, z0, y0, -, zz⟩ := O.rules
    have HO := Lib.hid O; clear O
    clear hbn
    go_wp2_with fail
    refine (HN.out _ ((HA.out.below HO.out.below (Nat.le_refl _)).more HO.out.size) ((HB.out.below HO.out.below (Nat.le_refl _)).more HO.out.size)).mono ?_
    rintro en wn ⟨rfl, hbn⟩
    have O := HO.out.keep hbn
    clear HO c0 f0 z0 y0 zz
    obtain ⟨c0, f0, z0, y0, -, zz⟩ := O.rules
    have HO := Lib.hid O; clear O
    clear hbn
    go_wp2_with fail
    go_ret
    exact ⟨rfl, HO.out.below⟩
  · 
    go_enter Try.func3, Try.ntmps3
    go_wp2_with fail
    refine (usual_any _).mono ?_
    rintro en w2 ⟨rfl, hb2⟩
    have O := (Reg.Own.nil w).keep hb2
    have zz := O.rules
    have HO := Lib.hid O; clear O
    clear hb2
    go_wp2_with fail
    have O := HO.out.alloc rfl #[.float .f64 4607182418800017408, .float .f64 4607182418800017408, .float .f64 4607182418800017408, .float .f64 4607182418800017408, .slice none 0 0] 26
    clear HO zz
    obtain ⟨c0, f0, z0, y0, -, zz⟩ := O.rules
    have HO := Lib.hid O; clear O
    refine (H1.out _ ((HA.out.below HO.out.below (Nat.le_refl _)).more HO.out.size) ((HB.out.below HO.out.below (Nat.le_refl _)).more HO.out.size)).mono ?_
    rintro en wn ⟨rfl, hbn⟩
    have O := HO.out.keep hbn
    clear HO c0 f0 z0 y0 zz
    obtain ⟨c0, f0, z0, y0, -, zz⟩ := O.rules
    have HO := Lib.hid O; clear O
    clear hbn
    go_wp2_with fail
    refine (H2.out _ ((HB.out.below HO.out.below (Nat.le_refl _)).more HO.out.size) ((HA.out.below HO.out.below (Nat.le_refl _)).more HO.out.size)).mono ?_
    rintro en wn ⟨rfl, hbn⟩
    have O := HO.out.keep hbn
    clear HO c0 f0 z0 y0 zz
    obtain ⟨c0, f0, z0, y0, -, zz⟩ := O.rules
    have HO := Lib.hid O; clear O
    clear hbn
    go_wp2_with fail
    refine (HW.out _).mono ?_
    rintro en wn ⟨rfl, rfl⟩
    go_wp2_with fail
    refine (awake_any _).mono ?_
    rintro en wn ⟨rfl, hbn⟩
    have O := HO.out.keep hbn
    clear HO c0 f0 z0 y0 zz
    obtain ⟨c0, f0, z0, y0, -, zz⟩ := O.rules
    have HO := Lib.hid O; clear O
    clear hbn
    go_wp2_with fail
    refine (HN.out _ ((HA.out.below HO.out.below (Nat.le_refl _)).more HO.out.size) ((HB.out.below HO.out.below (Nat.le_refl _)).more HO.out.size)).mono ?_
    rintro en wn ⟨rfl, hbn⟩
    have O := HO.out.keep hbn
    clear HO c0 f0 z0 y0 zz
    obtain ⟨c0, f0, z0, y0, -, zz⟩ := O.rules
    have HO := Lib.hid O; clear O
    clear hbn
    go_wp2_with fail
    go_ret
    exact ⟨rfl, HO.out.below⟩

set_option maxHeartbeats 2000000 in
theorem usual_lt (n m c d L D X Y M : Nat) (A B : Option Addr) (fa fb : Nat → Int) (z g1 g2 g3 g4 : Bool) (hmn : n < m) (hm : m ≤ 1048576)
    (w : World) (hA : NameAt w w.heap.size A n fa) (hB : NameAt w w.heap.size B m fb)
        (h1 : ∀ w, NameAt w w.heap.size A n fa → NameAt w w.heap.size B m fb → Calls Try.prog 13 #[.agg #[.float .f64 4607182418800017408, .float .f64 4607182418800017408, .float .f64 4607182418800017408, .float .f64 4607182418800017408, .slice none 0 0], .slice A n c, .slice B m d] w
          fun en w' => en = .returned (.tuple #[.float .f64 D, .int .i64 0]) ∧ Below w.heap.size w w')
        (h2 : ∀ w, NameAt w w.heap.size B m fb → NameAt w w.heap.size A n fa → Calls Try.prog 13 #[.agg #[.float .f64 4607182418800017408, .float .f64 4607182418800017408, .float .f64 4607182418800017408, .float .f64 4607182418800017408, .slice none 0 0], .slice B m d, .slice A n c] w
          fun en w' => en = .returned (.tuple #[.float .f64 D, .int .i64 0]) ∧ Below w.heap.size w w')
        (hw1 : ∀ w, Calls Try.prog 14 #[.slice A n c, .slice B m d] w fun en w' => en = .returned (.bool false) ∧ w = w')
        (hN : ∀ w, NameAt w w.heap.size A n fa → NameAt w w.heap.size B m fb → Calls Try.prog 16 #[.slice A n c, .slice B m d] w fun en w' => en = .returned (.bool z) ∧ Below w.heap.size w w')
        (f1 : feq .f64 D D = true) (f2 : feq .f64 D 0 = z) (f3 : ∀ w, Sem.run Try.prog (convert 23 3 (.float .f64 D)) w = .ok (.int .i64 (L : Int)) w) (f4 : floatOfInt .f64 (L : Int) = D)
    (e1 : floatOfInt .f64 ((n : Int) - m) = X) (e2 : flt .f64 X 0 = true) (e2' : Op.negFloat .f64 X = Y) (e3 : floatOfInt .f64 (m : Int) = M)
    (k1 : fgt .f64 D Y = g1) (k2 : feq .f64 D Y = g2) (k3 : flt .f64 D M = g3) (k4 : feq .f64 D M = g4) (hg : (g1 || g2) = true) (hg2 : (g3 || g4) = true) :
    Calls Try.prog 3 #[.slice A n c, .slice B m d] w fun en w' => en = .returned (.bool true) ∧ Below w.heap.size w w' := by
  have HA := Lib.hid hA; have HB := Lib.hid hB; have H1 := Lib.hid h1; have H2 := Lib.hid h2; have HW := Lib.hid hw1; have HN := Lib.hid hN
  clear hA hB h1 h2 hw1 hN
  have hx : (n : Int) < (m : Int) := by omega
  cases z <;> cases g1 <;> cases g2 <;> cases g3 <;> cases g4 <;> first | (cases hg; done) | (cases hg2; done) | skip
  all_goals clear hg hg2
  · 
    go_enter Try.func3, Try.ntmps3
    go_wp2_with fail
    refine (usual_any _).mono ?_
    rintro en w2 ⟨rfl, hb2⟩
    have O := (Reg.Own.nil w).keep hb2
    have zz := O.rules
    have HO := Lib.hid O; clear O
    clear hb2
    go_wp2_with fail
    have O := HO.out.alloc rfl #[.float .f64 4607182418800017408, .float .f64 4607182418800017408, .float .f64 4607182418800017408, .float .f64 4607182418800017408, .slice none 0 0] 26
    clear HO zz
    obtain ⟨c0, f0, z0, y0, -, zz⟩ := O.rules
    have HO := Lib.hid O; clear O
    refine (H1.out _ ((HA.out.below HO.out.below (Nat.le_refl _)).more HO.out.size) ((HB.out.below HO.out.below (Nat.le_refl _)).more HO.out.size)).mono ?_
    rintro en wn ⟨rfl, hbn⟩
    have O := HO.out.keep hbn
    clear HO c0 f0 z0 y0 zz
    obtain ⟨c0, f0, z0, y0, -, zz⟩ := O.rules
    have HO := Lib.hid O; clear O
    clear hbn
    go_wp2_with fail
    refine (H2.out _ ((HB.out.below HO.out.below (Nat.le_refl _)).more HO.out.size) ((HA.out.below HO.out.below (Nat.le_refl _)).more HO.out.size)).mono ?_
    rintro en wn ⟨rfl, hbn⟩
    have O := HO.out.keep hbn
    clear HO c0 f0 z0 y0 zz
    obtain ⟨c0, f0, z0, y0, -, zz⟩ := O.rules
    have HO := Lib.hid O; clear O
    clear hbn
    go_wp2_with fail
    refine (HW.out _).mono ?_
    rintro en wn ⟨rfl, rfl⟩
    go_wp2_with fail
    refine (awake_any _).mono ?_
    rintro en wn ⟨rfl, hbn⟩
    have O := HO.out.keep hbn
    clear HO c0 f0 z0 y0 zz
    obtain ⟨c0, f0, z0, y0, -, zz⟩ := O.rules
    have HO := Lib.hid O; clear O
    clear hbn
    go_wp2_with fail
    refine (HN.out _ ((HA.out.below HO.out.below (Nat.le_refl _)).more HO.out.size) ((HB.out.below HO.out.below (Nat.le_refl _)).more HO.out.size)).mono ?_
    rintro en wn ⟨rfl, hbn⟩
    have O := HO.out.keep hbn
    clear HO c0 f0 z0 y0 zz
    obtain ⟨c0, f0, z0, y0, -, zz⟩ := O.rules
    have HO := Lib.hid O; clear O
    clear hbn
    go_wp2_with fail
    go_ret
    exact ⟨rfl, HO.out.below⟩
  · 
    go_enter Try.func3, Try.ntmps3
    go_wp2_with fail
    refine (usual_any _).mono ?_
    rintro en w2 ⟨rfl, hb2⟩
    have O := (Reg.Own.nil w).keep hb2
    have zz := O.rules
    have HO := Lib.hid O; clear O
    clear hb2
    go_wp2_with fail
    have O := HO.out.alloc rfl #[.float .f64 4607182418800017408, .float .f64 4607182418800017408, .float .f64 4607182418800017408, .float .f64 4607182418800017408, .slice none 0 0] 26
    clear HO zz
    obtain ⟨c0, f0, z0, y0, -, zz⟩ := O.rules
    have HO := Lib.hid O; clear O
    refine (H1.out _ ((HA.out.below HO.out.below (Nat.le_refl _)).more HO.out.size) ((HB.out.below HO.out.below (Nat.le_refl _)).more HO.out.size)).mono ?_
    rintro en wn ⟨rfl, hbn⟩
    have O := HO.out.keep hbn
    clear HO c0 f0 z0 y0 zz
    obtain ⟨c0, f0, z0, y0, -, zz⟩ := O.rules
    have HO := Lib.hid O; clear O
    clear hbn
    go_wp2_with fail
    refine (H2.out _ ((HB.out.below HO.out.below (Nat.le_refl _)).more HO.out.size) ((HA.out.below HO.out.below (Nat.le_refl _)).more HO.out.size)).mono ?_
    rintro en wn ⟨rfl, hbn⟩
    have O := HO.out.keep hbn
    clear HO c0 f0 z0 y0 zz
    obtain ⟨c0, f0, z0, y0, -, zz⟩ := O.rules
    have HO := Lib.hid O; clear O
    clear hbn
    go_wp2_with fail
    refine (HW.out _).mono ?_
    rintro en wn ⟨rfl, rfl⟩
    go_wp2_with fail
    refine (awake_any _).mono ?_
    rintro en wn ⟨rfl, hbn⟩
    have O := HO.out.keep hbn
    clear HO c0 f0 z0 y0 zz
    obtain ⟨c0, f0, z0, y0, -, zz⟩ := O.rules
    have HO := Lib.hid O; clear O
    clear hbn
    go_wp2_with fail
    refine (HN.out _ ((HA.out.below HO.out.below (Nat.le_refl _)).more HO.out.size) ((HB.out.below HO.out.below (Nat.le_refl _)).more HO.out.size)).mono ?_
    rintro en wn ⟨rfl, hbn⟩
    have O := HO.out.keep hbn
    clear HO c0 f0 z0 y0 zz
    obtain ⟨c0, f0, z0, y0, -, zz⟩ := O.rules
    have HO := Lib.hid O; clear O
    clear hbn
    go_wp2_with fail
    go_ret
    exact ⟨rfl, HO.out.below⟩
  · 
    go_enter Try.func3, Try.ntmps3
    go_wp2_with fail
    refine (usual_any _).mono ?_
    rintro en w2 ⟨rfl, hb2⟩
    have O := (Reg.Own.nil w).keep hb2
    have zz := O.rules
    have HO := Lib.hid O; clear O
    clear hb2
    go_wp2_with fail
    have O := HO.out.alloc rfl #[.float .f64 4607182418800017408, .float .f64 4607182418800017408, .float .f64 4607182418800017408, .float .f64 4607182418800017408, .slice none 0 0] 26
    clear HO zz
    obtain ⟨c0, f0, z0, y0, -, zz⟩ := O.rules
    have HO := Lib.hid O; clear O
    refine (H1.out _ ((HA.out.below HO.out.below (Nat.le_refl _)).more HO.out.size) ((HB.out.below HO.out.below (Nat.le_refl _)).more HO.out.size)).mono ?_
    rintro en wn ⟨rfl, hbn⟩
    have O := HO.out.keep hbn
    clear HO c0 f0 z0 y0 zz
    obtain ⟨c0, f0, z0, y0, -, zz⟩ := O.rules
    have HO := Lib.hid O; clear O
    clear hbn
    go_wp2_with fail
    refine (H2.out _ ((HB.out.below HO.out.below (Nat.le_refl _)).more HO.out.size) ((HA.out.below HO.out.below (Nat.le_refl _)).more HO.out.size)).mono ?_
    rintro en wn ⟨rfl, hbn⟩
    have O := HO.out.keep hbn
    clear HO c0 f0 z0 y0 zz
    obtain ⟨c0, f0, z0, y0, -, zz⟩ := O.rules
    have HO := Lib.hid O; clear O
    clear hbn
    go_wp2_with fail
    refine (HW.out _).mono ?_
    rintro en wn ⟨rfl, rfl⟩
    go_wp2_with fail
    refine (awake_any _).mono ?_
    rintro en wn ⟨rfl, hbn⟩
    have O := HO.out.keep hbn
    clear HO c0 f0 z0 y0 zz
    obtain ⟨c0, f0, z0, y0, -, zz⟩ := O.rules
    have HO := Lib.hid O; clear O
    clear hbn
    go_wp2_with fail
    refine (HN.out _ ((HA.out.below HO.out.below (Nat.le_refl _)).more HO.out.size) ((HB.out.below HO.out.below (Nat.le_refl _)).more HO.out.size)).mono ?_
    rintro en wn ⟨rfl, hbn⟩
    have O := HO.out.keep hbn
    clear HO c0 f0 z0 y0 zz
    obtain ⟨c0, f0, z0, y0, -, zz⟩ := O.rules
    have HO := Lib.hid O; clear O
    clear hbn
    go_wp2_with fail
    go_ret
    exact ⟨rfl, HO.out.below⟩
  · 
    go_enter Try.func3, Try.ntmps3
    go_wp2_with fail
    refine (usual_any _).mono ?_
    rintro en w2 ⟨rfl, hb2⟩
    have O := (Reg.Own.nil w).keep hb2
    have zz := O.rules
    have HO := Lib.hid O; clear O
    clear hb2
    go_wp2_with fail
    have O := HO.out.alloc rfl #[.float .f64 4607182418800017408, .float .f64 4607182418800017408, .float .f64 4607182418800017408, .float .f64 4607182418800017408, .slice none 0 0] 26
    clear HO zz
    obtain ⟨c0, f0, z0, y0, -, zz⟩ := O.rules
    have HO := Lib.hid O; clear O
    refine (H1.out _ ((HA.out.below HO.out.below (Nat.le_refl _)).more HO.out.size) ((HB.out.below HO.out.below (Nat.le_refl _)).more HO.out.size)).mono ?_
    rintro en wn ⟨rfl, hbn⟩
    have O := HO.out.keep hbn
    clear HO c0 f0 z0 y0 zz
    obtain ⟨c0, f0, z0, y0, -, zz⟩ := O.rules
    have HO := Lib.hid O; clear O
    clear hbn
    go_wp2_with fail
    refine (H2.out _ ((HB.out.below HO.out.below (Nat.le_refl _)).more HO.out.size) ((HA.out.below HO.out.below (Nat.le_refl _)).more HO.out.size)).mono ?_
    rintro en wn ⟨rfl, hbn⟩
    have O := HO.out.keep hbn
    clear HO c0 f0 z0 y0 zz
    obtain ⟨c0, f0, z0, y0, -, zz⟩ := O.rules
    have HO := Lib.hid O; clear O
    clear hbn
    go_wp2_with fail
    refine (HW.out _).mono ?_
    rintro en wn ⟨rfl, rfl⟩
    go_wp2_with fail
    refine (awake_any _).mono ?_
    rintro en wn ⟨rfl, hbn⟩
    have O := HO.out.keep hbn
    clear HO c0 f0 z0 y0 zz
    obtain ⟨c0, f0, z0, y0, -, zz⟩ := O.rules
    have HO := Lib.hid O; clear O
    clear hbn
    go_wp2_with fail
    refine (HN.out _ ((HA.out.below HO.out.below (Nat.le_refl _)).more HO.out.size) ((HB.out.below HO.out.below (Nat.le_refl _)).more HO.out.size)).mono ?_
    rintro en wn ⟨rfl, hbn⟩
    have O := HO.out.keep hbn
    clear HO c0 f0 z0 y0 zz
    obtain ⟨c0, f0, z0, y0, -, zz⟩ := O.rules
    have HO := Lib.hid O; clear O
    clear hbn
    go_wp2_with fail
    go_ret
    exact ⟨rfl, HO.out.below⟩
  · 
    go_enter Try.func3, Try.ntmps3
    go_wp2_with fail
    refine (usual_any _).mono ?_
    rintro en w2 ⟨rfl, hb2⟩
    have O := (Reg.Own.nil w).keep hb2
    have zz := O.rules
    have HO := Lib.hid O; clear O
    clear hb2
    go_wp2_with fail
    have O := HO.out.alloc rfl #[.float .f64 4607182418800017408, .float .f64 4607182418800017408, .float .f64 4607182418800017408, .float .f64 4607182418800017408, .slice none 0 0] 26
    clear HO zz
    obtain ⟨c0, f0, z0, y0, -, zz⟩ := O.rules
    have HO := Lib.hid O; clear O
    refine (H1.out _ ((HA.out.below HO.out.below (Nat.le_refl _)).more HO.out.size) ((HB.out.below HO.out.below (Nat.le_refl _)).more HO.out.size)).mono ?_
    rintro en wn ⟨rfl, hbn⟩
    have O := HO.out.keep hbn
    clear HO c0 f0 z0 y0 zz
    obtain ⟨c0, f0, z0, y0, -, zz⟩ := O.rules
    have HO := Lib.hid O; clear O
    clear hbn
    go_wp2_with fail
    refine (H2.out _ ((HB.out.below HO.out.below (Nat.le_refl _)).more HO.out.size) ((HA.out.below HO.out.below (Nat.le_refl _)).more HO.out.size)).mono ?_
    rintro en wn ⟨rfl, hbn⟩
    have O := HO.out.keep hbn
    clear HO c0 f0 z0 y0 zz
    obtain ⟨c0, f0, z0, y0, -, zz⟩ := O.rules
    have HO := Lib.hid O; clear O
    clear hbn
    go_wp2_with fail
    refine (HW.out _).mono ?_
    rintro en wn ⟨rfl, rfl⟩
    go_wp2_with fail
    refine (awake_any _).mono ?_
    rintro en wn ⟨rfl, hbn⟩
    have O := HO.out.keep hbn
    clear HO c0 f0 z0 y0 zz
    obtain ⟨c0, f0, z0, y0, -, zz⟩ := O.rules
    have HO := Lib.hid O; clear O
    clear hbn
    go_wp2_with fail
    refine (HN.out _ ((HA.out.below HO.out.below (Nat.le_refl _)).more HO.out.size) ((HB.out.below HO.out.below (Nat.le_refl _)).more HO.out.size)).mono ?_
    rintro en wn ⟨rfl, hbn⟩
    have O := HO.out.keep hbn
    clear HO c0 f0 z0 y0 zz
    obtain ⟨c0, f0, z0, y0, -, zz⟩ := O.rules
    have HO := Lib.hid O; clear O
    clear hbn
    go_wp2_with fail
    go_ret
    exact ⟨rfl, HO.out.below⟩
  · 
    go_enter Try.func3, Try.ntmps3
    go_wp2_with fail
    refine (usual_any _).mono ?_
    rintro en w2 ⟨rfl, hb2⟩
    have O := (Reg.Own.nil w).keep hb2
    have zz := O.rules
    have HO := Lib.hid O; clear O
    clear hb2
    go_wp2_with fail
    have O := HO.out.alloc rfl #[.float .f64 4607182418800017408, .float .f64 4607182418800017408, .float .f64 4607182418800017408, .float .f64 4607182418800017408, .slice none 0 0] 26
    clear HO zz
    obtain ⟨c0, f0, z0, y0, -, zz⟩ := O.rules
    have HO := Lib.hid O; clear O
    refine (H1.out _ ((HA.out.below HO.out.below (Nat.le_refl _)).more HO.out.size) ((HB.out.below HO.out.below (Nat.le_refl _)).more HO.out.size)).mono ?_
    rintro en wn ⟨rfl, hbn⟩
    have O := HO.out.keep hbn
    clear HO c0 f0 z0 y0 zz
    obtain ⟨c0, f0, z0, y0, -, zz⟩ := O.rules
    have HO := Lib.hid O; clear O
    clear hbn
    go_wp2_with fail
    refine (H2.out _ ((HB.out.below HO.out.below (Nat.le_refl _)).more HO.out.size) ((HA.out.below HO.out.below (Nat.le_refl _)).more HO.out.size)).mono ?_
    rintro en wn ⟨rfl, hbn⟩
    have O := HO.out.keep hbn
    clear HO c0 f0 z0 y0 zz
    obtain ⟨c0, f0, z0, y0, -, zz⟩ := O.rules
    have HO := Lib.hid O; clear O
    clear hbn
    go_wp2_with fail
    refine (HW.out _).mono ?_
    rintro en wn ⟨rfl, rfl⟩
    go_wp2_with fail
    refine (awake_any _).mono ?_
    rintro en wn ⟨rfl, hbn⟩
    have O := HO.out.keep hbn
    clear HO c0 f0 z0 y0 zz
    obtain ⟨c0, f0, z0, y0, -, zz⟩ := O.rules
    have HO := Lib.hid O; clear O
    clear hbn
    go_wp2_with fail
    refine (HN.out _ ((HA.out.below HO.out.below (Nat.le_refl _)).more HO.out.size) ((HB.out.below HO.out.below (Nat.le_refl _)).more HO.out.size)).mono ?_
    rintro en wn ⟨rfl, hbn⟩
    have O := HO.out.keep hbn
    clear HO c0 f0 z0 y0 zz
    obtain ⟨c0, f0, z0, y0, -, zz⟩ := O.rules
    have HO := Lib.hid O; clear O
    clear hbn
    go_wp2_with fail
    go_ret
    exact ⟨rfl, HO.out.below⟩
  · 
    go_enter Try.func3, Try.ntmps3
    go_wp2_with fail
    refine (usual_any _).mono ?_
    rintro en w2 ⟨rfl, hb2⟩
    have O := (Reg.Own.nil w).keep hb2
    have zz := O.rules
    have HO := Lib.hid O; clear O
    clear hb2
    go_wp2_with fail
    have O := HO.out.alloc rfl #[.float .f64 4607182418800017408, .float .f64 4607182418800017408, .float .f64 4607182418800017408, .float .f64 4607182418800017408, .slice none 0 0] 26
    clear HO zz
    obtain ⟨c0, f0, z0, y0, -, zz⟩ := O.rules
    have HO := Lib.hid O; clear O
    refine (H1.out _ ((HA.out.below HO.out.below (Nat.le_refl _)).more HO.out.size) ((HB.out.below HO.out.below (Nat.le_refl _)).more HO.out.size)).mono ?_
    rintro en wn ⟨rfl, hbn⟩
    have O := HO.out.keep hbn
    clear HO c0 f0 z0 y0 zz
    obtain ⟨c0, f0, z0, y0, -, zz⟩ := O.rules
    have HO := Lib.hid O; clear O
    clear hbn
    go_wp2_with fail
    refine (H2.out _ ((HB.out.below HO.out.below (Nat.le_refl _)).more HO.out.size) ((HA.out.below HO.out.below (Nat.le_refl _)).more HO.out.size)).mono ?_
    rintro en wn ⟨rfl, hbn⟩
    have O := HO.out.keep hbn
    clear HO c0 f0 z0 y0 zz
    obtain ⟨c0, f0, z0, y0, -, zz⟩ := O.rules
    have HO := Lib.hid O; clear O
    clear hbn
    go_wp2_with fail
    refine (HW.out _).mono ?_
    rintro en wn ⟨rfl, rfl⟩
    go_wp2_with fail
    refine (awake_any _).mono ?_
    rintro en wn ⟨rfl, hbn⟩
    have O := HO.out.keep hbn
    clear HO c0 f0 z0 y0 zz
    obtain ⟨c0, f0, z0, y0, -, zz⟩ := O.rules
    have HO := Lib.hid O; clear O
    clear hbn
    go_wp2_with fail
    refine (HN.out _ ((HA.out.below HO.out.below (Nat.le_refl _)).more HO.out.size) ((HB.out.below HO.out.below (Nat.le_refl _)).more HO.out.size)).mono ?_
    rintro en wn ⟨rfl, hbn⟩
    have O := HO.out.keep hbn
    clear HO c0 f0 z0 y0 zz
    obtain ⟨c0, f0, z0, y0, -, zz⟩ := O.rules
    have HO := Lib.hid O; clear O
    clear hbn
    go_wp2_with fail
    go_ret
    exact ⟨rfl, HO.out.below⟩
  · 
    go_enter Try.func3, Try.ntmps3
    go_wp2_with fail
    refine (usual_any _).mono ?_
    rintro en w2 ⟨rfl, hb2⟩
    have O := (Reg.Own.nil w).keep hb2
    have zz := O.rules
    have HO := Lib.hid O; clear O
    clear hb2
    go_wp2_with fail
    have O := HO.out.alloc rfl #[.float .f64 4607182418800017408, .float .f64 4607182418800017408, .float .f64 4607182418800017408, .float .f64 4607182418800017408, .slice none 0 0] 26
    clear HO zz
    obtain ⟨c0, f0, z0, y0, -, zz⟩ := O.rules
    have HO := Lib.hid O; clear O
    refine (H1.out _ ((HA.out.below HO.out.below (Nat.le_refl _)).more HO.out.size) ((HB.out.below HO.out.below (Nat.le_refl _)).more HO.out.size)).mono ?_
    rintro en wn ⟨rfl, hbn⟩
    have O := HO.out.keep hbn
    clear HO c0 f0 z0 y0 zz
    obtain ⟨c0, f0, z0, y0, -, zz⟩ := O.rules
    have HO := Lib.hid O; clear O
    clear hbn
    go_wp2_with fail
    refine (H2.out _ ((HB.out.below HO.out.below (Nat.le_refl _)).more HO.out.size) ((HA.out.below HO.out.below (Nat.le_refl _)).more HO.out.size)).mono ?_
    rintro en wn ⟨rfl, hbn⟩
    have O := HO.out.keep hbn
    clear HO c0 f0 z0 y0 zz
    obtain ⟨c0, f0, z0, y0, -, zz⟩ := O.rules
    have HO := Lib.hid O; clear O
    clear hbn
    go_wp2_with fail
    refine (HW.out _).mono ?_
    rintro en wn ⟨rfl, rfl⟩
    go_wp2_with fail
    refine (awake_any _).mono ?_
    rintro en wn ⟨rfl, hbn⟩
    have O := HO.out.keep hbn
    clear HO c0 f0 z0 y0 zz
    obtain ⟨c0, f0, z0, y0, -, zz⟩ := O.rules
    have HO := Lib.hid O; clear O
    clear hbn
    go_wp2_with fail
    refine (HN.out _ ((HA.out.below HO.out.below (Nat.le_refl _)).more HO.out.size) ((HB.out.below HO.out.below (Nat.le_refl _)).more HO.out.size)).mono ?_
    rintro en wn ⟨rfl, hbn⟩
    have O := HO.out.keep hbn
    clear HO c0 f0 z0 y0 zz
    obtain ⟨c0, f0, z0, y0, -, zz⟩ := O.rules
    have HO := Lib.hid O; clear O
    clear hbn
    go_wp2_with fail
    go_ret
    exact ⟨rfl, HO.out.below⟩
  · 
    go_enter Try.func3, Try.ntmps3
    go_wp2_with fail
    refine (usual_any _).mono ?_
    rintro en w2 ⟨rfl, hb2⟩
    have O := (Reg.Own.nil w).keep hb2
    have zz := O.rules
    have HO := Lib.hid O; clear O
    clear hb2
    go_wp2_with fail
    have O := HO.out.alloc rfl #[.float .f64 4607182418800017408, .float .f64 4607182418800017408, .float .f64 4607182418800017408, .float .f64 4607182418800017408, .slice none 0 0] 26
    clear HO zz
    obtain ⟨c0, f0, z0, y0, -, zz⟩ := O.rules
    have HO := Lib.hid O; clear O
    refine (H1.out _ ((HA.out.below HO.out.below (Nat.le_refl _)).more HO.out.size) ((HB.out.below HO.out.below (Nat.le_refl _)).more HO.out.size)).mono ?_
    rintro en wn ⟨rfl, hbn⟩
    have O := HO.out.keep hbn
    clear HO c0 f0 z0 y0 zz
    obtain ⟨c0, f0, z0, y0, -, zz⟩ := O.rules
    have HO := Lib.hid O; clear O
    clear hbn
    go_wp2_with fail
    refine (H2.out _ ((HB.out.below HO.out.below (Nat.le_refl _)).more HO.out.size) ((HA.out.below HO.out.below (Nat.le_refl _)).more HO.out.size)).mono ?_
    rintro en wn ⟨rfl, hbn⟩
    have O := HO.out.keep hbn
    clear HO c0 f0 z0 y0 zz
    obtain ⟨c0, f0, z0, y0, -, zz⟩ := O.rules
    have HO := Lib.hid O; clear O
    clear hbn
    go_wp2_with fail
    refine (HW.out _).mono ?_
    rintro en wn ⟨rfl, rfl⟩
    go_wp2_with fail
    refine (awake_any _).mono ?_
    rintro en wn ⟨rfl, hbn⟩
    have O := HO.out.keep hbn
    clear HO c0 f0 z0 y0 zz
    obtain ⟨c0, f0, z0, y0, -, zz⟩ := O.rules
    have HO := Lib.hid O; clear O
    clear hbn
    go_wp2_with fail
    refine (HN.out _ ((HA.out.below HO.out.below (Nat.le_refl _)).more HO.out.size) ((HB.out.below HO.out.below (Nat.le_refl _)).more HO.out.size)).mono ?_
    rintro en wn ⟨rfl, hbn⟩
    have O := HO.out.keep hbn
    clear HO c0 f0 z0 y0 zz
    obtain ⟨c0, f0, z0, y0, -, zz⟩ := O.rules
    have HO := Lib.hid O; clear O
    clear hbn
    go_wp2_with fail
    go_ret
    exact ⟨rfl, HO.out.below⟩
  · 
    go_enter Try.func3, Try.ntmps3
    go_wp2_with fail
    refine (usual_any _).mono ?_
    rintro en w2 ⟨rfl, hb2⟩
    have O := (Reg.Own.nil w).keep hb2
    have zz := O.rules
    have HO := Lib.hid O; clear O
    clear hb2
    go_wp2_with fail
    have O := HO.out.alloc rfl #[.float .f64 4607182418800017408, .float .f64 4607182418800017408, .float .f64 4607182418800017408, .float .f64 4607182418800017408, .slice none 0 0] 26
    clear HO zz
    obtain ⟨c0, f0, z0, y0, -, zz⟩ := O.rules
    have HO := Lib.hid O; clear O
    refine (H1.out _ ((HA.out.below HO.out.below (Nat.le_refl _)).more HO.out.size) ((HB.out.below HO.out.below (Nat.le_refl _)).more HO.out.size)).mono ?_
    rintro en wn ⟨rfl, hbn⟩
    have O := HO.out.keep hbn
    clear HO c0 f0 z0 y0 zz
    obtain ⟨c0, f0, z0, y0, -, zz⟩ := O.rules
    have HO := Lib.hid O; clear O
    clear hbn
    go_wp2_with fail
    refine (H2.out _ ((HB.out.below HO.out.below (Nat.le_refl _)).more HO.out.size) ((HA.out.below HO.out.below (Nat.le_refl _)).more HO.out.size)).mono ?_
    rintro en wn ⟨rfl, hbn⟩
    have O := HO.out.keep hbn
    clear HO c0 f0 z0 y0 zz
    obtain ⟨c0, f0, z0, y0, -, zz⟩ := O.rules
    have HO := Lib.hid O; clear O
    clear hbn
    go_wp2_with fail
    refine (HW.out _).mono ?_
    rintro en wn ⟨rfl, rfl⟩
    go_wp2_with fail
    refine (awake_any _).mono ?_
    rintro en wn ⟨rfl, hbn⟩
    have O := HO.out.keep hbn
    clear HO c0 f0 z0 y0 zz
    obtain ⟨c0, f0, z0, y0, -, zz⟩ := O.rules
    have HO := Lib.hid O; clear O
    clear hbn
    go_wp2_with fail
    refine (HN.out _ ((HA.out.below HO.out.below (Nat.le_refl _)).more HO.out.size) ((HB.out.below HO.out.below (Nat.le_refl _)).more HO.out.size)).mono ?_
    rintro en wn ⟨rfl, hbn⟩
    have O := HO.out.keep hbn
    clear HO c0 f0 z0 y0 zz
    obtain ⟨c0, f0, z0, y0, -, zz⟩ := O.rules
    have HO := Lib.hid O; clear O
    clear hbn
    go_wp2_with fail
    go_ret
    exact ⟨rfl, HO.out.below⟩
  · 
    go_enter Try.func3, Try.ntmps3
    go_wp2_with fail
    refine (usual_any _).mono ?_
    rintro en w2 ⟨rfl, hb2⟩
    have O := (Reg.Own.nil w).keep hb2
    have zz := O.rules
    have HO := Lib.hid O; clear O
    clear hb2
    go_wp2_with fail
    have O := HO.out.alloc rfl #[.float .f64 4607182418800017408, .float .f64 4607182418800017408, .float .f64 4607182418800017408, .float .f64 4607182418800017408, .slice none 0 0] 26
    clear HO zz
    obtain ⟨c0, f0, z0, y0, -, zz⟩ := O.rules
    have HO := Lib.hid O; clear O
    refine (H1.out _ ((HA.out.below HO.out.below (Nat.le_refl _)).more HO.out.size) ((HB.out.below HO.out.below (Nat.le_refl _)).more HO.out.size)).mono ?_
    rintro en wn ⟨rfl, hbn⟩
    have O := HO.out.keep hbn
    clear HO c0 f0 z0 y0 zz
    obtain ⟨c0, f0, z0, y0, -, zz⟩ := O.rules
    have HO := Lib.hid O; clear O
    clear hbn
    go_wp2_with fail
    refine (H2.out _ ((HB.out.below HO.out.below (Nat.le_refl _)).more HO.out.size) ((HA.out.below HO.out.below (Nat.le_refl _)).more HO.out.size)).mono ?_
    rintro en wn ⟨rfl, hbn⟩
    have O := HO.out.keep hbn
    clear HO c0 f0 z0 y0 zz
    obtain ⟨c0, f0, z0, y0, -, zz⟩ := O.rules
    have HO := Lib.hid O; clear O
    clear hbn
    go_wp2_with fail
    refine (HW.out _).mono ?_
    rintro en wn ⟨rfl, rfl⟩
    go_wp2_with fail
    refine (awake_any _).mono ?_
    rintro en wn ⟨rfl, hbn⟩
    have O := HO.out.keep hbn
    clear HO c0 f0 z0 y0 zz
    obtain ⟨c0, f0, z0, y0, -, zz⟩ := O.rules
    have HO := Lib.hid O; clear O
    clear hbn
    go_wp2_with fail
    refine (HN.out _ ((HA.out.below HO.out.below (Nat.le_refl _)).more HO.out.size) ((HB.out.below HO.out.below (Nat.le_refl _)).more HO.out.size)).mono ?_
    rintro en wn ⟨rfl, hbn⟩
    have O := HO.out.keep hbn
    clear HO c0 f0 z0 y0 zz
    obtain ⟨c0, f0, z0, y0, -, zz⟩ := O.rules
    have HO := Lib.hid O; clear O
    clear hbn
    go_wp2_with fail
    go_ret
    exact ⟨rfl, HO.out.below⟩
  · 
    go_enter Try.func3, Try.ntmps3
    go_wp2_with fail
    refine (usual_any _).mono ?_
    rintro en w2 ⟨rfl, hb2⟩
    have O := (Reg.Own.nil w).keep hb2
    have zz := O.rules
    have HO := Lib.hid O; clear O
    clear hb2
    go_wp2_with fail
    have O := HO.out.alloc rfl #[.float .f64 4607182418800017408, .float .f64 4607182418800017408, .float .f64 4607182418800017408, .float .f64 4607182418800017408, .slice none 0 0] 26
    clear HO zz
    obtain ⟨c0, f0, z0, y0, -, zz⟩ := O.rules
    have HO := Lib.hid O; clear O
    refine (H1.out _ ((HA.out.below HO.out.below (Nat.le_refl _)).more HO.out.size) ((HB.out.below HO.out.below (Nat.le_refl _)).more HO.out.size)).mono ?_
    rintro en wn ⟨rfl, hbn⟩
    have O := HO.out.keep hbn
    clear HO c0 f0 z0 y0 zz
    obtain ⟨c0, f0, z0, y0, -, zz⟩ := O.rules
    have HO := Lib.hid O; clear O
    clear hbn
    go_wp2_with fail
    refine (H2.out _ ((HB.out.below HO.out.below (Nat.le_refl _)).more HO.out.size) ((HA.out.below HO.out.below (Nat.le_refl _)).more HO.out.size)).mono ?_
    rintro en wn ⟨rfl, hbn⟩
    have O := HO.out.keep hbn
    clear HO c0 f0 z0 y0 zz
    obtain ⟨c0, f0, z0, y0, -, zz⟩ := O.rules
    have HO := Lib.hid O; clear O
    clear hbn
    go_wp2_with fail
    refine (HW.out _).mono ?_
    rintro en wn ⟨rfl, rfl⟩
    go_wp2_with fail
    refine (awake_any _).mono ?_
    rintro en wn ⟨rfl, hbn⟩
    have O := HO.out.keep hbn
    clear HO c0 f0 z0 y0 zz
    obtain ⟨c0, f0, z0, y0, -, zz⟩ := O.rules
    have HO := Lib.hid O; clear O
    clear hbn
    go_wp2_with fail
    refine (HN.out _ ((HA.out.below HO.out.below (Nat.le_refl _)).more HO.out.size) ((HB.out.below HO.out.below (Nat.le_refl _)).more HO.out.size)).mono ?_
    rintro en wn ⟨rfl, hbn⟩
    have O := HO.out.keep hbn
    clear HO c0 f0 z0 y0 zz
    obtain ⟨c0, f0, z0, y0, -, zz⟩ := O.rules
    have HO := Lib.hid O; clear O
    clear hbn
    go_wp2_with fail
    go_ret
    exact ⟨rfl, HO.out.below⟩
  · 
    go_enter Try.func3, Try.ntmps3
    go_wp2_with fail
    refine (usual_any _).mono ?_
    rintro en w2 ⟨rfl, hb2⟩
    have O := (Reg.Own.nil w).keep hb2
    have zz := O.rules
    have HO := Lib.hid O; clear O
    clear hb2
    go_wp2_with fail
    have O := HO.out.alloc rfl #[.float .f64 4607182418800017408, .float .f64 4607182418800017408, .float .f64 4607182418800017408, .float .f64 4607182418800017408, .slice none 0 0] 26
    clear HO zz
    obtain ⟨c0, f0, z0, y0, -, zz⟩ := O.rules
    have HO := Lib.hid O; clear O
    refine (H1.out _ ((HA.out.below HO.out.below (Nat.le_refl _)).more HO.out.size) ((HB.out.below HO.out.below (Nat.le_refl _)).more HO.out.size)).mono ?_
    rintro en wn ⟨rfl, hbn⟩
    have O := HO.out.keep hbn
    clear HO c0 f0 z0 y0 zz
    obtain ⟨c0, f0, z0, y0, -, zz⟩ := O.rules
    have HO := Lib.hid O; clear O
    clear hbn
    go_wp2_with fail
    refine (H2.out _ ((HB.out.below HO.out.below (Nat.le_refl _)).more HO.out.size) ((HA.out.below HO.out.below (Nat.le_refl _)).more HO.out.size)).mono ?_
    rintro en wn ⟨rfl, hbn⟩
    have O := HO.out.keep hbn
    clear HO c0 f0 z0 y0 zz
    obtain ⟨c0, f0, z0, y0, -, zz⟩ := O.rules
    have HO := Lib.hid O; clear O
    clear hbn
    go_wp2_with fail
    refine (HW.out _).mono ?_
    rintro en wn ⟨rfl, rfl⟩
    go_wp2_with fail
    refine (awake_any _).mono ?_
    rintro en wn ⟨rfl, hbn⟩
    have O := HO.out.keep hbn
    clear HO c0 f0 z0 y0 zz
    obtain ⟨c0, f0, z0, y0, -, zz⟩ := O.rules
    have HO := Lib.hid O; clear O
    clear hbn
    go_wp2_with fail
    refine (HN.out _ ((HA.out.below HO.out.below (Nat.le_refl _)).more HO.out.size) ((HB.out.below HO.out.below (Nat.le_refl _)).more HO.out.size)).mono ?_
    rintro en wn ⟨rfl, hbn⟩
    have O := HO.out.keep hbn
    clear HO c0 f0 z0 y0 zz
    obtain ⟨c0, f0, z0, y0, -, zz⟩ := O.rules
    have HO := Lib.hid O; clear O
    clear hbn
    go_wp2_with fail
    go_ret
    exact ⟨rfl, HO.out.below⟩
  · 
    go_enter Try.func3, Try.ntmps3
    go_wp2_with fail
    refine (usual_any _).mono ?_
    rintro en w2 ⟨rfl, hb2⟩
    have O := (Reg.Own.nil w).keep hb2
    have zz := O.rules
    have HO := Lib.hid O; clear O
    clear hb2
    go_wp2_with fail
    have O := HO.out.alloc rfl #[.float .f64 4607182418800017408, .float .f64 4607182418800017408, .float .f64 4607182418800017408, .float .f64 4607182418800017408, .slice none 0 0] 26
    clear HO zz
    obtain ⟨c0, f0, z0, y0, -, zz⟩ := O.rules
    have HO := Lib.hid O; clear O
    refine (H1.out _ ((HA.out.below HO.out.below (Nat.le_refl _)).more HO.out.size) ((HB.out.below HO.out.below (Nat.le_refl _)).more HO.out.size)).mono ?_
    rintro en wn ⟨rfl, hbn⟩
    have O := HO.out.keep hbn
    clear HO c0 f0 z0 y0 zz
    obtain ⟨c0, f0, z0, y0, -, zz⟩ := O.rules
    have HO := Lib.hid O; clear O
    clear hbn
    go_wp2_with fail
    refine (H2.out _ ((HB.out.below HO.out.below (Nat.le_refl _)).more HO.out.size) ((HA.out.below HO.out.below (Nat.le_refl _)).more HO.out.size)).mono ?_
    rintro en wn ⟨rfl, hbn⟩
    have O := HO.out.keep hbn
    clear HO c0 f0 z0 y0 zz
    obtain ⟨c0, f0, z0, y0, -, zz⟩ := O.rules
    have HO := Lib.hid O; clear O
    clear hbn
    go_wp2_with fail
    refine (HW.out _).mono ?_
    rintro en wn ⟨rfl, rfl⟩
    go_wp2_with fail
    refine (awake_any _).mono ?_
    rintro en wn ⟨rfl, hbn⟩
    have O := HO.out.keep hbn
    clear HO c0 f0 z0 y0 zz
    obtain ⟨c0, f0, z0, y0, -, zz⟩ := O.rules
    have HO := Lib.hid O; clear O
    clear hbn
    go_wp2_with fail
    refine (HN.out _ ((HA.out.below HO.out.below (Nat.le_refl _)).more HO.out.size) ((HB.out.below HO.out.below (Nat.le_refl _)).more HO.out.size)).mono ?_
    rintro en wn ⟨rfl, hbn⟩
    have O := HO.out.keep hbn
    clear HO c0 f0 z0 y0 zz
    obtain ⟨c0, f0, z0, y0, -, zz⟩ := O.rules
    have HO := Lib.hid O; clear O
    clear hbn
    go_wp2_with fail
    go_ret
    exact ⟨rfl, HO.out.below⟩
  · 
    go_enter Try.func3, Try.ntmps3
    go_wp2_with fail
    refine (usual_any _).mono ?_
    rintro en w2 ⟨rfl, hb2⟩
    have O := (Reg.Own.nil w).keep hb2
    have zz := O.rules
    have HO := Lib.hid O; clear O
    clear hb2
    go_wp2_with fail
    have O := HO.out.alloc rfl #[.float .f64 4607182418800017408, .float .f64 4607182418800017408, .float .f64 4607182418800017408, .float .f64 4607182418800017408, .slice none 0 0] 26
    clear HO zz
    obtain ⟨c0, f0, z0, y0, -, zz⟩ := O.rules
    have HO := Lib.hid O; clear O
    refine (H1.out _ ((HA.out.below HO.out.below (Nat.le_refl _)).more HO.out.size) ((HB.out.below HO.out.below (Nat.le_refl _)).more HO.out.size)).mono ?_
    rintro en wn ⟨rfl, hbn⟩
    have O := HO.out.keep hbn
    clear HO c0 f0 z0 y0 zz
    obtain ⟨c0, f0, z0, y0, -, zz⟩ := O.rules
    have HO := Lib.hid O; clear O
    clear hbn
    go_wp2_with fail
    refine (H2.out _ ((HB.out.below HO.out.below (Nat.le_refl _)).more HO.out.size) ((HA.out.below HO.out.below (Nat.le_refl _)).more HO.out.size)).mono ?_
    rintro en wn ⟨rfl, hbn⟩
    have O := HO.out.keep hbn
    clear HO c0 f0 z0 y0 zz
    obtain ⟨c0, f0, z0, y0, -, zz⟩ := O.rules
    have HO := Lib.hid O; clear O
    clear hbn
    go_wp2_with fail
    refine (HW.out _).mono ?_
    rintro en wn ⟨rfl, rfl⟩
    go_wp2_with fail
    refine (awake_any _).mono ?_
    rintro en wn ⟨rfl, hbn⟩
    have O := HO.out.keep hbn
    clear HO c0 f0 z0 y0 zz
    obtain ⟨c0, f0, z0, y0, -, zz⟩ := O.rules
    have HO := Lib.hid O; clear O
    clear hbn
    go_wp2_with fail
    refine (HN.out _ ((HA.out.below HO.out.below (Nat.le_refl _)).more HO.out.size) ((HB.out.below HO.out.below (Nat.le_refl _)).more HO.out.size)).mono ?_
    rintro en wn ⟨rfl, hbn⟩
    have O := HO.out.keep hbn
    clear HO c0 f0 z0 y0 zz
    obtain ⟨c0, f0, z0, y0, -, zz⟩ := O.rules
    have HO := Lib.hid O; clear O
    clear hbn
    go_wp2_with fail
    go_ret
    exact ⟨rfl, HO.out.below⟩
  · 
    go_enter Try.func3, Try.ntmps3
    go_wp2_with fail
    refine (usual_any _).mono ?_
    rintro en w2 ⟨rfl, hb2⟩
    have O := (Reg.Own.nil w).keep hb2
    have zz := O.rules
    have HO := Lib.hid O; clear O
    clear hb2
    go_wp2_with fail
    have O := HO.out.alloc rfl #[.float .f64 4607182418800017408, .float .f64 4607182418800017408, .float .f64 4607182418800017408, .float .f64 4607182418800017408, .slice none 0 0] 26
    clear HO zz
    obtain ⟨c0, f0, z0, y0, -, zz⟩ := O.rules
    have HO := Lib.hid O; clear O
    refine (H1.out _ ((HA.out.below HO.out.below (Nat.le_refl _)).more HO.out.size) ((HB.out.below HO.out.below (Nat.le_refl _)).more HO.out.size)).mono ?_
    rintro en wn ⟨rfl, hbn⟩
    have O := HO.out.keep hbn
    clear HO c0 f0 z0 y0 zz
    obtain ⟨c0, f0, z0, y0, -, zz⟩ := O.rules
    have HO := Lib.hid O; clear O
    clear hbn
    go_wp2_with fail
    refine (H2.out _ ((HB.out.below HO.out.below (Nat.le_refl _)).more HO.out.size) ((HA.out.below HO.out.below (Nat.le_refl _)).more HO.out.size)).mono ?_
    rintro en wn ⟨rfl, hbn⟩
    have O := HO.out.keep hbn
    clear HO c0 f0 z0 y0 zz
    obtain ⟨c0, f0, z0, y0, -, zz⟩ := O.rules
    have HO := Lib.hid O; clear O
    clear hbn
    go_wp2_with fail
    refine (HW.out _).mono ?_
    rintro en wn ⟨rfl, rfl⟩
    go_wp2_with fail
    refine (awake_any _).mono ?_
    rintro en wn ⟨rfl, hbn⟩
    have O := HO.out.keep hbn
    clear HO c0 f0 z0 y0 zz
    obtain ⟨c0, f0, z0, y0, -, zz⟩ := O.rules
    have HO := Lib.hid O; clear O
    clear hbn
    go_wp2_with fail
    refine (HN.out _ ((HA.out.below HO.out.below (Nat.le_refl _)).more HO.out.size) ((HB.out.below HO.out.below (Nat.le_refl _)).more HO.out.size)).mono ?_
    rintro en wn ⟨rfl, hbn⟩
    have O := HO.out.keep hbn
    clear HO c0 f0 z0 y0 zz
    obtain ⟨c0, f0, z0, y0, -, zz⟩ := O.rules
    have HO := Lib.hid O; clear O
    clear hbn
    go_wp2_with fail
    go_ret
    exact ⟨rfl, HO.out.below⟩
  · 
    go_enter Try.func3, Try.ntmps3
    go_wp2_with fail
    refine (usual_any _).mono ?_
    rintro en w2 ⟨rfl, hb2⟩
    have O := (Reg.Own.nil w).keep hb2
    have zz := O.rules
    have HO := Lib.hid O; clear O
    clear hb2
    go_wp2_with fail
    have O := HO.out.alloc rfl #[.float .f64 4607182418800017408, .float .f64 4607182418800017408, .float .f64 4607182418800017408, .float .f64 4607182418800017408, .slice none 0 0] 26
    clear HO zz
    obtain ⟨c0, f0, z0, y0, -, zz⟩ := O.rules
    have HO := Lib.hid O; clear O
    refine (H1.out _ ((HA.out.below HO.out.below (Nat.le_refl _)).more HO.out.size) ((HB.out.below HO.out.below (Nat.le_refl _)).more HO.out.size)).mono ?_
    rintro en wn ⟨rfl, hbn⟩
    have O := HO.out.keep hbn
    clear HO c0 f0 z0 y0 zz
    obtain ⟨c0, f0, z0, y0, -, zz⟩ := O.rules
    have HO := Lib.hid O; clear O
    clear hbn
    go_wp2_with fail
    refine (H2.out _ ((HB.out.below HO.out.below (Nat.le_refl _)).more HO.out.size) ((HA.out.below HO.out.below (Nat.le_refl _)).more HO.out.size)).mono ?_
    rintro en wn ⟨rfl, hbn⟩
    have O := HO.out.keep hbn
    clear HO c0 f0 z0 y0 zz
    obtain ⟨c0, f0, z0, y0, -, zz⟩ := O.rules
    have HO := Lib.hid O; clear O
    clear hbn
    go_wp2_with fail
    refine (HW.out _).mono ?_
    rintro en wn ⟨rfl, rfl⟩
    go_wp2_with fail
    refine (awake_any _).mono ?_
    rintro en wn ⟨rfl, hbn⟩
    have O := HO.out.keep hbn
    clear HO c0 f0 z0 y0 zz
    obtain ⟨c0, f0, z0, y0, -, zz⟩ := O.rules
    have HO := Lib.hid O; clear O
    clear hbn
    go_wp2_with fail
    refine (HN.out _ ((HA.out.below HO.out.below (Nat.le_refl _)).more HO.out.size) ((HB.out.below HO.out.below (Nat.le_refl _)).more HO.out.size)).mono ?_
    rintro en wn ⟨rfl, hbn⟩
    have O := HO.out.keep hbn
    clear HO c0 f0 z0 y0 zz
    obtain ⟨c0, f0, z0, y0, -, zz⟩ := O.rules
    have HO := Lib.hid O; clear O
    clear hbn
    go_wp2_with fail
    go_ret
    exact ⟨rfl, HO.out.below⟩
  · 
    go_enter Try.func3, Try.ntmps3
    go_wp2_with fail
    refine (usual_any _).mono ?_
    rintro en w2 ⟨rfl, hb2⟩
    have O := (Reg.Own.nil w).keep hb2
    have zz := O.rules
    have HO := Lib.hid O; clear O
    clear hb2
    go_wp2_with fail
    have O := HO.out.alloc rfl #[.float .f64 4607182418800017408, .float .f64 4607182418800017408, .float .f64 4607182418800017408, .float .f64 4607182418800017408, .slice none 0 0] 26
    clear HO zz
    obtain ⟨c0, f0, z0, y0, -, zz⟩ := O.rules
    have HO := Lib.hid O; clear O
    refine (H1.out _ ((HA.out.below HO.out.below (Nat.le_refl _)).more HO.out.size) ((HB.out.below HO.out.below (Nat.le_refl _)).more HO.out.size)).mono ?_
    rintro en wn ⟨rfl, hbn⟩
    have O := HO.out.keep hbn
    clear HO c0 f0 z0 y0 zz
    obtain ⟨c0, f0, z0, y0, -, zz⟩ := O.rules
    have HO := Lib.hid O; clear O
    clear hbn
    go_wp2_with fail
    refine (H2.out _ ((HB.out.below HO.out.below (Nat.le_refl _)).more HO.out.size) ((HA.out.below HO.out.below (Nat.le_refl _)).more HO.out.size)).mono ?_
    rintro en wn ⟨rfl, hbn⟩
    have O := HO.out.keep hbn
    clear HO c0 f0 z0 y0 zz
    obtain ⟨c0, f0, z0, y0, -, zz⟩ := O.rules
    have HO := Lib.hid O; clear O
    clear hbn
    go_wp2_with fail
    refine (HW.out _).mono ?_
    rintro en wn ⟨rfl, rfl⟩
    go_wp2_with fail
    refine (awake_any _).mono ?_
    rintro en wn ⟨rfl, hbn⟩
    have O := HO.out.keep hbn
    clear HO c0 f0 z0 y0 zz
    obtain ⟨c0, f0, z0, y0, -, zz⟩ := O.rules
    have HO := Lib.hid O; clear O
    clear hbn
    go_wp2_with fail
    refine (HN.out _ ((HA.out.below HO.out.below (Nat.le_refl _)).more HO.out.size) ((HB.out.below HO.out.below (Nat.le_refl _)).more HO.out.size)).mono ?_
    rintro en wn ⟨rfl, hbn⟩
    have O := HO.out.keep hbn
    clear HO c0 f0 z0 y0 zz
    obtain ⟨c0, f0, z0, y0, -, zz⟩ := O.rules
    have HO := Lib.hid O; clear O
    clear hbn
    go_wp2_with fail
    go_ret
    exact ⟨rfl, HO.out.below⟩

set_option maxHeartbeats 2000000 in
theorem usual_wide (n m c d : Nat) (A B : Option Addr) (fa fb : Nat → Int) (w : World) (hA : NameAt w w.heap.size A n fa) (hB : NameAt w w.heap.size B m fb)
    (h1 : ∀ w, NameAt w w.heap.size A n fa → NameAt w w.heap.size B m fb → Calls Try.prog 13 #[.agg #[.float .f64 4607182418800017408, .float .f64 4607182418800017408, .float .f64 4607182418800017408, .float .f64 4607182418800017408, .slice none 0 0], .slice A n c, .slice B m d] w
      fun en w' => en = .returned (.tuple #[.float .f64 0, .int .i64 271]) ∧ Below w.heap.size w w')
    (h2 : ∀ w, NameAt w w.heap.size B m fb → NameAt w w.heap.size A n fa → Calls Try.prog 13 #[.agg #[.float .f64 4607182418800017408, .float .f64 4607182418800017408, .float .f64 4607182418800017408, .float .f64 4607182418800017408, .slice none 0 0], .slice B m d, .slice A n c] w
      fun en w' => en = .returned (.tuple #[.float .f64 0, .int .i64 271]) ∧ Below w.heap.size w w')
    (hw1 : ∀ w, Calls Try.prog 14 #[.slice A n c, .slice B m d] w fun en w' => en = .returned (.bool true) ∧ w = w') :
    Calls Try.prog 3 #[.slice A n c, .slice B m d] w fun en w' => en = .returned (.bool true) ∧ Below w.heap.size w w' := by
  have HA := Lib.hid hA; have HB := Lib.hid hB; have H1 := Lib.hid h1; have H2 := Lib.hid h2; have HW := Lib.hid hw1
  clear hA hB h1 h2 hw1
  go_enter Try.func3, Try.ntmps3
  go_wp2_with fail
  refine (usual_any _).mono ?_
  rintro en w2 ⟨rfl, hb2⟩
  have O := (Reg.Own.nil w).keep hb2
  have zz := O.rules
  have HO := Lib.hid O; clear O
  clear hb2
  go_wp2_with fail
  have O := HO.out.alloc rfl #[.float .f64 4607182418800017408, .float .f64 4607182418800017408, .float .f64 4607182418800017408, .float .f64 4607182418800017408, .slice none 0 0] 26
  clear HO zz
  obtain ⟨c0, f0, z0, y0, -, zz⟩ := O.rules
  have HO := Lib.hid O; clear O
  refine (H1.out _ ((HA.out.below HO.out.below (Nat.le_refl _)).more HO.out.size) ((HB.out.below HO.out.below (Nat.le_refl _)).more HO.out.size)).mono ?_
  rintro en wn ⟨rfl, hbn⟩
  have O := HO.out.keep hbn
  clear HO c0 f0 z0 y0 zz
  obtain ⟨c0, f0, z0, y0, -, zz⟩ := O.rules
  have HO := Lib.hid O; clear O
  clear hbn
  go_wp2_with fail
  refine (H2.out _ ((HB.out.below HO.out.below (Nat.le_refl _)).more HO.out.size) ((HA.out.below HO.out.below (Nat.le_refl _)).more HO.out.size)).mono ?_
  rintro en wn ⟨rfl, hbn⟩
  have O := HO.out.keep hbn
  clear HO c0 f0 z0 y0 zz
  obtain ⟨c0, f0, z0, y0, -, zz⟩ := O.rules
  have HO := Lib.hid O; clear O
  clear hbn
  go_wp2_with fail
  refine (HW.out _).mono ?_
  rintro en wn ⟨rfl, rfl⟩
  go_wp2_with fail
  refine (awake_any _).mono ?_
  rintro en wn ⟨rfl, hbn⟩
  have O := HO.out.keep hbn
  clear HO c0 f0 z0 y0 zz
  obtain ⟨c0, f0, z0, y0, -, zz⟩ := O.rules
  have HO := Lib.hid O; clear O
  clear hbn
  go_wp2_with fail
  go_ret
  exact ⟨rfl, HO.out.below⟩

theorem likeUsual_walk (n m c d : Nat) (A B : Option Addr) (fa fb : Nat → Int) (w : World) (hA : NameAt w w.heap.size A n fa) (hB : NameAt w w.heap.size B m fb) (hn : n ≤ 1048576) (hm : m ≤ 1048576) :
    Calls Try.prog 3 #[.slice A n c, .slice B m d] w fun en w' => en = .returned (.bool true) ∧ Below w.heap.size w w' := by
  have h1 := fun w hA hB => udist_any n m c d A B fa fb w hA hB hn hm
  have h2 := fun w hB hA => udist_any m n d c B A fb fa w hB hA hm hn
  have hw1 := fun w => wide_any n m c d A B w hn hm
  have hsy : wideB m n = wideB n m := by unfold wideB; rw [Nat.mul_comm]
  rw [← lev_symm fa fb _ n m rfl, hsy] at h2
  have hN := fun w hA hB => names_any A B n m c d fa fb w hA hB hn hm
  have hl := lev_le fa fb _ n m rfl
  have hz := lev_zero fa fb _ n m rfl
  obtain ⟨L, hL⟩ : ∃ L, L = lev fa fb n m := ⟨_, rfl⟩
  rw [← hL] at h1 h2 hl hz
  have hsame : sameB n m fa fb = (L == 0) := by
    unfold sameB; rw [Bool.eq_iff_iff]; simp only [decide_eq_true_eq, beq_iff_eq]; exact hz.symm
  rw [hsame] at hN
  clear hz hsame hsy hL
  cases hw : wideB n m
  · rw [hw] at h1 h2 hw1
    simp only [Bool.false_eq_true, if_false] at h1 h2
    have hL53 : L < 2 ^ 53 := by omega
    have hn53 : n < 2 ^ 53 := by omega
    have hm53 : m < 2 ^ 53 := by omega
    have f1 : feq .f64 (fl L) (fl L) = true := by rw [feq_fl hL53 hL53]; simp
    have f2 : feq .f64 (fl L) 0 = (L == 0) := by
      have := feq_fl hL53 (show 0 < 2 ^ 53 by omega)
      rwa [fl_zero] at this
    have f3 : ∀ w, Sem.run Try.prog (convert 23 3 (.float .f64 (fl L))) w = .ok (.int .i64 (L : Int)) w := fun w =>
      run_convert_float_int w _ _ .f64 .i64 _ _ (by kernel_rfl) Try.underlying3 (int_fl hL53)
    rcases Nat.lt_or_ge n m with hlt | hge
    · have hd53 : m - n < 2 ^ 53 := by omega
      have hX : floatOfInt .f64 ((n : Int) - m) = wrd true (fl (m - n)) := by
        rw [foi, decide_eq_true (by omega)]; congr 2; omega
      have hr := (fl_rv hd53).2
      have hX0 : flt .f64 (wrd true (fl (m - n))) 0 = true := by
        have hr0 : 0 < fl (m - n) := by
          have := (fl_lt_iff (show 0 < 2 ^ 53 by omega) hd53).2 (by omega)
          rwa [fl_zero] at this
        have hk : key64 (wrd true (fl (m - n))) = -(fl (m - n) : Int) := by
          unfold key64
          rw [(wrd_lt true _ (show fl (m - n) < 9223372036854775808 by omega)).2.1, if_pos ((neg_div _ (wrd_lt true _ (show fl (m - n) < 9223372036854775808 by omega)).1).2 (wrd_lt true _ (show fl (m - n) < 9223372036854775808 by omega)).2.2)]
        rw [flt64, nan_wrd _ _ (by omega), hk]
        have k0 : key64 0 = 0 := rfl
        have n0 : nan64 0 = false := rfl
        rw [k0, n0]; simp; omega
      refine usual_lt n m c d L (fl L) _ (fl (m - n)) (fl m) A B fa fb (L == 0) _ _ _ _ hlt hm w hA hB h1 h2 hw1 hN f1 f2 f3 (foi_nat L) hX hX0 (neg_wrd _ (by omega)) (foi_nat m)
        (fgt_fl hL53 hd53) (feq_fl hL53 hd53) (flt_fl hL53 hm53) (feq_fl hL53 hm53) ?_ ?_
      · simp; omega
      · simp; omega
    · have hd53 : n - m < 2 ^ 53 := by omega
      have hX : floatOfInt .f64 ((n : Int) - m) = fl (n - m) := by
        rw [show (n : Int) - m = ((n - m : Nat) : Int) by omega, foi_nat]
      have hX0 : flt .f64 (fl (n - m)) 0 = false := by
        have := flt_fl hd53 (show 0 < 2 ^ 53 by omega)
        rw [fl_zero] at this
        rw [this]; simp
      refine usual_ge n m c d L (fl L) _ (fl n) A B fa fb (L == 0) _ _ _ _ hge hn w hA hB h1 h2 hw1 hN f1 f2 f3 (foi_nat L) hX hX0 (foi_nat n)
        (fgt_fl hL53 hd53) (feq_fl hL53 hd53) (flt_fl hL53 hn53) (feq_fl hL53 hn53) ?_ ?_
      · simp; omega
      · simp; omega
  · rw [hw] at h1 h2 hw1
    simp only [if_true] at h1 h2
    exact usual_wide n m c d A B fa fb w hA hB h1 h2 hw1

theorem likeUsual_own : ownKnob Try.prog.godebug = none := by kernel_rfl
theorem likeUsual_laid : laidOutB Try.prog = true := by kernel_rfl
theorem likeUsual_types : ∀ t ∈ ([22, 22] : List TypeId), Try.prog.readableRec t = true ∧ t < Try.prog.types.size := by
  simp only [List.mem_cons, List.not_mem_nil, or_false, forall_eq_or_imp, forall_eq]
  exact ⟨⟨by kernel_rfl, of_decide_eq_true (by kernel_rfl)⟩, ⟨by kernel_rfl, of_decide_eq_true (by kernel_rfl)⟩⟩
set_option maxRecDepth 100000 in
theorem likeUsual_lifted (os : Os) (started : os.Started) (H : Type) (enc : TypeId × Value → H) (F : Stop.Interp) :
    ReturnsInHanded {} Try.checked os 3 .any ((Rows.OpenSpec.upto Rows.likeUsualSpec).pre6 enc Try.prog Try.f3 Rows.likeUsualUptoRow.domain false) (((Rows.OpenSpec.upto Rows.likeUsualSpec).at F).post enc Try.prog Try.f3 false true false false) := by
  refine returnsInHanded_of_cond (C := Try.checked) (s := Rows.OpenSpec.upto Rows.likeUsualSpec) (k := Rows.uptoSmall) rfl likeUsual_own started (by kernel_rfl) Try.func3
    (OpenSpec.witness (enc := enc) (C := Try.checked) (s := Rows.OpenSpec.upto Rows.likeUsualSpec) (k := Rows.uptoSmall) rfl false ⟨#[], #[.slice none 0 0, .slice none 0 0], []⟩ 8 (by kernel_rfl) (by kernel_rfl) (by kernel_rfl) (x := ([.nil, .nil], [], [])) (by kernel_rfl) rfl (by kernel_rfl)) ?_
  intro W base args ds gs before hval0 hW _ hk _
  have hval : ∀ (j : Nat) t v, Try.f3.params[j]? = some t → args[j]? = some v → Value.okWide Try.prog W .any base t v := hval0
  have hW' := hW
  obtain ⟨p, q, hA0, hV, rfl, hfz, hnd⟩ := hW
  have hA : DataW.TrodAll enc Try.prog W 0 (fun _ => true) true Try.f3.params.toList args.toList ds p := hA0
  obtain ⟨rfl, rfl⟩ := trodVars_none hV
  have hpost : ∀ W', Below W.heap.size W W' → Rows.likeUsualSpec.post enc Try.prog Try.f3 false true false false W args (.bool true) W' := fun W' hb => by
    have hlen : ds.length = 2 := by have hh := hA; rw [Try.params3] at hh; obtain ⟨_, _, d0, ds0, _, _, _, rfl, _, _, hh⟩ := trodAll_cons hh; obtain ⟨_, _, d1, ds1, _, _, _, rfl, _, _, hh⟩ := trodAll_cons hh; obtain ⟨_, rfl, _⟩ := trodAll_nil hh; simp
    obtain ⟨e0, e1, rfl⟩ : ∃ e0 e1, ds = [e0, e1] := by match ds, hlen with | [e0, e1], _ => exact ⟨e0, e1, rfl⟩
    exact law_post likeUsual_laid rfl hW' (by rw [Try.params3]; exact likeUsual_types) (tb := 4) (by kernel_rfl) Try.underlying4 rfl rfl rfl hb
  rw [Try.params3] at hA hval
  obtain ⟨v0, vs0, d0, ds0, p0, q0, hargs, rfl, rfl, h0, r0⟩ := trodAll_cons hA
  obtain ⟨v1, vs1, d1, ds1, p1, q1, rfl, rfl, rfl, h1, r1⟩ := trodAll_cons r0
  obtain ⟨rfl, rfl, rfl⟩ := trodAll_nil r1
  obtain rfl : args = #[v0, v1] := by cases args; simp_all
  obtain ⟨A, n, c, fa, rfl, bA, nA⟩ := open_name Try.underlying22 Try.underlying21 (by kernel_rfl) (hval 0 22 v0 rfl rfl) h0
  obtain ⟨B, m, d, fb, rfl, bB, nB⟩ := open_name Try.underlying22 Try.underlying21 (by kernel_rfl) (hval 1 22 v1 rfl rfl) h1
  have hbk := upto_bound hk
  simp only [Rows.uptoBulkAll, List.cons_append, List.nil_append, List.append_nil] at hbk
  refine (likeUsual_walk n m c d A B fa fb W nA nB (by omega) (by omega)).mono fun e W' ⟨he, hg⟩ => ?_
  subst he
  exact ⟨_, rfl, hpost _ hg⟩

theorem likeUsual_holds : Rows.LikeUsualUptoSaid :=
  OpenClaim.holds_of_cond 3 Try.f3 rfl rfl rfl rfl rfl rfl rfl ⟨rfl, rfl, rfl, rfl, rfl⟩ rfl rfl rfl rfl rfl (by kernel_rfl) Try.func3 (by kernel_rfl)
    (of_decide_eq_true (by kernel_rfl)) (by unfold Func.isWrapper; first | (rw [if_pos (by decide +kernel)]; kernel_rfl) | (rw [if_neg (by decide +kernel)]; exact ⟨rfl, rfl⟩))
    (fun os started H enc _ F => likeUsual_lifted os started H enc F)
#print axioms likeUsual_holds

end Go.Proofs.Ytkhdemaanakbeaa
