/- The longest row stands in both names, is as long both ways, is the name itself of a name and it; the usual distance is at most what is left of both; Dice and Hamming are the same both ways: the law LikeRows returns true for every input of the bound. Condition: what is read is of bulk at most 1048576. -/
import Derived.Test.YtkhdemaanakbeaaRl
import Derived.Test.YtkhdemaanakbeaaCg
import Derived.Test.YtkhdemaanakbeaaOq
namespace Go.Proofs.Ytkhdemaanakbeaa
open Go.RowKit Go.Pst Go.ChangeShapes Go.WideShapes Go.ChangeAt Go.Joins Go.Deep
set_option maxRecDepth 100000
set_option linter.unusedSimpArgs false
set_option linter.unusedVariables false

theorem vdist_any (n m c d : Nat) (A B : Option Addr) (fa fb : Nat → Int) (w : World) (hA : NameAt w w.heap.size A n fa) (hB : NameAt w w.heap.size B m fb) (hn : n ≤ 1048576) (hm : m ≤ 1048576) (hw : wideB n m = false) :
    Calls Try.prog 13 #[.agg #[.float .f64 4607182418800017408, .float .f64 4607182418800017408, .float .f64 4607182418800017408, .float .f64 4607182418800017408, .slice none 0 0], .slice A n c, .slice B m d] w
      fun en w' => en = .returned (.tuple #[.float .f64 (fl (lev fa fb n m)), .int .i64 0]) ∧ Below w.heap.size w w' := by
  refine (dist_any _ _ _ _ n m c d 0 0 A B none (fun _ => (0, 0, 0)) fa fb w hA hB hn hm (by omega) (fun h => by omega)).mono ?_
  rintro en w' ⟨u, rfl, h1, h2, hb⟩
  have he : errN (fun _ => ((0 : Int), (0 : Int), (0 : Nat))) 0 n m = 0 := by
    unfold errN; rw [if_neg (by decide), hw]; rfl
  rw [he] at h1 h2 ⊢
  refine ⟨?_, hb⟩
  have hu := h2 rfl
  rw [tab_lev _ _ _ _ n m rfl (by omega)] at hu
  have hl := (lev_le fa fb _ n m rfl).1
  have := cn_eq hu (fl_fin (show lev fa fb n m < 2 ^ 53 by omega)).1.2.1
  rw [this]

def gone (t : Nat) (e : Int) : Nat := if e = 0 then t else 0
theorem lk_of_share {t : Nat} {e : Int} {w : World} {f : FuncId} {args : Array Value} (h : Calls Try.prog f args w (SharePost t e w)) : Calls Try.prog f args w (fun en w' => ∃ u, en = .returned (.tuple #[.float .f64 u, .int .i64 e]) ∧ cn u = gone t e ∧ Below w.heap.size w w') := by
  refine h.mono ?_
  rintro en w' ⟨u, h1, h2, h3, h4⟩
  refine ⟨u, h1, ?_, h4⟩
  unfold gone
  by_cases e0 : e = 0
  · rw [if_pos e0]; exact h3 e0
  · rw [if_neg e0, h2 e0]; decide
theorem gone_lt {t : Nat} {e : Int} (h : t < 2 ^ 64) : gone t e < 2 ^ 64 := by
  unfold gone; split
  · exact h
  · decide
theorem diW_lt (n m : Nat) (size : Int) (fa fb : Nat → Int) : diW n m size fa fb < 2 ^ 64 := by
  unfold diW diV; split
  · decide
  · exact arV_lt _ _ _
set_option maxHeartbeats 4000000 in
theorem likeRows_core (n m c d D X t z : Nat) (size ed : Int) (h : Nat) (hb g1 g2 : Bool) (A B : Option Addr) (fa fb : Nat → Int) (l l' lo : List Int) (w : World)
    (hA : NameAt w w.heap.size A n fa) (hB : NameAt w w.heap.size B m fb) (htl : t < 2 ^ 64) (hll : l.length = l'.length) (hz : ed ≠ 0 ∨ z = 4607182418800017408)
    (hX : floatOfInt .f64 ((n : Int) + (m : Int) - 2 * (l.length : Int)) = X) (k1 : flt .f64 D X = g1) (k2 : feq .f64 D X = g2) (hg : (g1 || g2) = true) (hlen : l.length ≤ 1048576) (hn : n ≤ 1048576) (hm : m ≤ 1048576)
    (h1 : ∀ w, Calls Try.prog 14 #[.slice A n c, .slice B m d] w fun en w' => en = .returned (.bool false) ∧ w = w')
    (h2 : ∀ w, Calls Try.prog 14 #[.slice A n c, .slice A n c] w fun en w' => en = .returned (.bool false) ∧ w = w')
    (h3 : ∀ w, NameAt w w.heap.size A n fa → NameAt w w.heap.size B m fb → Calls Try.prog 30 #[.slice A n c, .slice B m d] w (CommonPost l w))
    (h4 : ∀ w, NameAt w w.heap.size A n fa → NameAt w w.heap.size B m fb → Calls Try.prog 30 #[.slice B m d, .slice A n c] w (CommonPost l' w))
    (h5 : ∀ w, NameAt w w.heap.size A n fa → NameAt w w.heap.size B m fb → Calls Try.prog 30 #[.slice A n c, .slice A n c] w (CommonPost lo w))
    (h6 : ∀ w, NameAt w w.heap.size A n fa → NameAt w w.heap.size B m fb → Calls Try.prog 13 #[.agg #[.float .f64 4607182418800017408, .float .f64 4607182418800017408, .float .f64 4607182418800017408, .float .f64 4607182418800017408, .slice none 0 0], .slice A n c, .slice B m d] w
      fun en w' => en = .returned (.tuple #[.float .f64 D, .int .i64 0]) ∧ Below w.heap.size w w')
    (h7 : ∀ w, NameAt w w.heap.size A n fa → NameAt w w.heap.size B m fb → Calls Try.prog 37 #[.slice A n c, .slice B m d, .int .i64 size] w (fun en w' => ∃ u, en = .returned (.tuple #[.float .f64 u, .int .i64 ed]) ∧ cn u = t ∧ Below w.heap.size w w'))
    (h8 : ∀ w, NameAt w w.heap.size A n fa → NameAt w w.heap.size B m fb → Calls Try.prog 37 #[.slice B m d, .slice A n c, .int .i64 size] w (fun en w' => ∃ u, en = .returned (.tuple #[.float .f64 u, .int .i64 ed]) ∧ cn u = t ∧ Below w.heap.size w w'))
    (h9 : ∀ w, NameAt w w.heap.size A n fa → NameAt w w.heap.size B m fb → Calls Try.prog 37 #[.slice A n c, .slice A n c, .int .i64 size] w (fun en w' => en = .returned (.tuple #[.float .f64 z, .int .i64 ed]) ∧ Below w.heap.size w w'))
    (h10 : ∀ w, NameAt w w.heap.size A n fa → NameAt w w.heap.size B m fb → Calls Try.prog 38 #[.slice A n c, .slice B m d] w fun en w' => en = .returned (.tuple #[.int .i64 (h : Int), .bool hb]) ∧ Below w.heap.size w w')
    (h11 : ∀ w, NameAt w w.heap.size A n fa → NameAt w w.heap.size B m fb → Calls Try.prog 38 #[.slice B m d, .slice A n c] w fun en w' => en = .returned (.tuple #[.int .i64 (h : Int), .bool hb]) ∧ Below w.heap.size w w')
    (h12 : ∀ L cl w, NameAt w w.heap.size L lo.length (fun q => lo.getD q 0) → NameAt w w.heap.size A n fa → Calls Try.prog 16 #[.slice L lo.length cl, .slice A n c] w fun en w' => en = .returned (.bool true) ∧ Below w.heap.size w w')
    (h13 : ∀ L cl w, NameAt w w.heap.size L l.length (fun q => l.getD q 0) → NameAt w w.heap.size A n fa → Calls Try.prog 39 #[.slice L l.length cl, .slice A n c] w fun en w' => en = .returned (.bool true) ∧ Below w.heap.size w w')
    (h14 : ∀ L cl w, NameAt w w.heap.size L l.length (fun q => l.getD q 0) → NameAt w w.heap.size B m fb → Calls Try.prog 39 #[.slice L l.length cl, .slice B m d] w fun en w' => en = .returned (.bool true) ∧ Below w.heap.size w w') :
    Calls Try.prog 10 #[.slice A n c, .slice B m d, .int .i64 size] w fun en w' => en = .returned (.bool true) ∧ Below w.heap.size w w' := by
  have HA := Lib.hid hA; have HB := Lib.hid hB
  have H1 := Lib.hid h1; have H2 := Lib.hid h2; have H3 := Lib.hid h3; have H4 := Lib.hid h4; have H5 := Lib.hid h5; have H6 := Lib.hid h6; have H7 := Lib.hid h7; have H8 := Lib.hid h8; have H9 := Lib.hid h9; have H10 := Lib.hid h10; have H11 := Lib.hid h11; have H12 := Lib.hid h12; have H13 := Lib.hid h13; have H14 := Lib.hid h14
  have HLL := Lib.hid hll; have HZ := Lib.hid hz; have HG := Lib.hid hg
  clear hA hB h1 h2 h3 h4 h5 h6 h7 h8 h9 h10 h11 h12 h13 h14 hll hz hg
  go_enter Try.func10, Try.ntmps10
  go_wp2_with fail
  refine (H1.out _).mono ?_
  rintro en wn ⟨rfl, rfl⟩
  go_wp2_with fail
  refine (H2.out _).mono ?_
  rintro en wn ⟨rfl, rfl⟩
  have O := (Reg.Own.nil w)
  have zz := O.rules
  have HO := Lib.hid O; clear O
  go_wp2_with fail
  refine (H3.out _ ((HA.out.below HO.out.below (Nat.le_refl _)).more HO.out.size) ((HB.out.below HO.out.below (Nat.le_refl _)).more HO.out.size)).mono ?_
  rintro en wn ⟨v, rfl, hown, hbn⟩
  obtain ⟨Al, cl, rfl, hnl⟩ := name_of_own hown
  have HL := Lib.hid hnl
  clear hnl hown
  have O := HO.out.keep hbn
  clear HO zz
  have zz := O.rules
  have HO := Lib.hid O; clear O
  clear hbn
  go_wp2_with fail
  refine (H4.out _ ((HA.out.below HO.out.below (Nat.le_refl _)).more HO.out.size) ((HB.out.below HO.out.below (Nat.le_refl _)).more HO.out.size)).mono ?_
  rintro en wn ⟨v, rfl, hown, hbn⟩
  obtain ⟨Am, cm', rfl, hnl⟩ := name_of_own hown
  clear hnl hown
  replace HL := Lib.hid ((HL.out.below hbn (Nat.le_refl _)).more hbn.size)
  have O := HO.out.keep hbn
  clear HO zz
  have zz := O.rules
  have HO := Lib.hid O; clear O
  clear hbn
  go_wp2_with fail
  refine (H5.out _ ((HA.out.below HO.out.below (Nat.le_refl _)).more HO.out.size) ((HB.out.below HO.out.below (Nat.le_refl _)).more HO.out.size)).mono ?_
  rintro en wn ⟨v, rfl, hown, hbn⟩
  obtain ⟨Ao, co, rfl, hnl⟩ := name_of_own hown
  have HL2 := Lib.hid hnl
  clear hnl hown
  replace HL := Lib.hid ((HL.out.below hbn (Nat.le_refl _)).more hbn.size)
  have O := HO.out.keep hbn
  clear HO zz
  have zz := O.rules
  have HO := Lib.hid O; clear O
  clear hbn
  go_wp2_with fail
  refine (usual_any _).mono ?_
  rintro en wn ⟨rfl, hbn⟩
  replace HL2 := Lib.hid ((HL2.out.below hbn (Nat.le_refl _)).more hbn.size)
  replace HL := Lib.hid ((HL.out.below hbn (Nat.le_refl _)).more hbn.size)
  have O := HO.out.keep hbn
  clear HO zz
  have zz := O.rules
  have HO := Lib.hid O; clear O
  clear hbn
  go_wp2_with fail
  refine (H6.out _ ((HA.out.below HO.out.below (Nat.le_refl _)).more HO.out.size) ((HB.out.below HO.out.below (Nat.le_refl _)).more HO.out.size)).mono ?_
  rintro en wn ⟨rfl, hbn⟩
  replace HL2 := Lib.hid ((HL2.out.below hbn (Nat.le_refl _)).more hbn.size)
  replace HL := Lib.hid ((HL.out.below hbn (Nat.le_refl _)).more hbn.size)
  have O := HO.out.keep hbn
  clear HO zz
  have zz := O.rules
  have HO := Lib.hid O; clear O
  clear hbn
  go_wp2_with fail
  refine (H7.out _ ((HA.out.below HO.out.below (Nat.le_refl _)).more HO.out.size) ((HB.out.below HO.out.below (Nat.le_refl _)).more HO.out.size)).mono ?_
  rintro en wn ⟨u1, rfl, hu1, hbn⟩
  have HU1 := Lib.hid hu1
  clear hu1
  replace HL2 := Lib.hid ((HL2.out.below hbn (Nat.le_refl _)).more hbn.size)
  replace HL := Lib.hid ((HL.out.below hbn (Nat.le_refl _)).more hbn.size)
  have O := HO.out.keep hbn
  clear HO zz
  have zz := O.rules
  have HO := Lib.hid O; clear O
  clear hbn
  go_wp2_with fail
  refine (H8.out _ ((HA.out.below HO.out.below (Nat.le_refl _)).more HO.out.size) ((HB.out.below HO.out.below (Nat.le_refl _)).more HO.out.size)).mono ?_
  rintro en wn ⟨u2, rfl, hu2, hbn⟩
  have HU2 := Lib.hid hu2
  clear hu2
  replace HL2 := Lib.hid ((HL2.out.below hbn (Nat.le_refl _)).more hbn.size)
  replace HL := Lib.hid ((HL.out.below hbn (Nat.le_refl _)).more hbn.size)
  have O := HO.out.keep hbn
  clear HO zz
  have zz := O.rules
  have HO := Lib.hid O; clear O
  clear hbn
  go_wp2_with fail
  refine (H9.out _ ((HA.out.below HO.out.below (Nat.le_refl _)).more HO.out.size) ((HB.out.below HO.out.below (Nat.le_refl _)).more HO.out.size)).mono ?_
  rintro en wn ⟨rfl, hbn⟩
  replace HL2 := Lib.hid ((HL2.out.below hbn (Nat.le_refl _)).more hbn.size)
  replace HL := Lib.hid ((HL.out.below hbn (Nat.le_refl _)).more hbn.size)
  have O := HO.out.keep hbn
  clear HO zz
  have zz := O.rules
  have HO := Lib.hid O; clear O
  clear hbn
  go_wp2_with fail
  refine (H10.out _ ((HA.out.below HO.out.below (Nat.le_refl _)).more HO.out.size) ((HB.out.below HO.out.below (Nat.le_refl _)).more HO.out.size)).mono ?_
  rintro en wn ⟨rfl, hbn⟩
  replace HL2 := Lib.hid ((HL2.out.below hbn (Nat.le_refl _)).more hbn.size)
  replace HL := Lib.hid ((HL.out.below hbn (Nat.le_refl _)).more hbn.size)
  have O := HO.out.keep hbn
  clear HO zz
  have zz := O.rules
  have HO := Lib.hid O; clear O
  clear hbn
  go_wp2_with fail
  refine (H11.out _ ((HA.out.below HO.out.below (Nat.le_refl _)).more HO.out.size) ((HB.out.below HO.out.below (Nat.le_refl _)).more HO.out.size)).mono ?_
  rintro en wn ⟨rfl, hbn⟩
  replace HL2 := Lib.hid ((HL2.out.below hbn (Nat.le_refl _)).more hbn.size)
  replace HL := Lib.hid ((HL.out.below hbn (Nat.le_refl _)).more hbn.size)
  have O := HO.out.keep hbn
  clear HO zz
  have zz := O.rules
  have HO := Lib.hid O; clear O
  clear hbn
  go_wp2_with fail
  refine (awake_any _).mono ?_
  rintro en wn ⟨rfl, hbn⟩
  replace HL2 := Lib.hid ((HL2.out.below hbn (Nat.le_refl _)).more hbn.size)
  replace HL := Lib.hid ((HL.out.below hbn (Nat.le_refl _)).more hbn.size)
  have O := HO.out.keep hbn
  clear HO zz
  have zz := O.rules
  have HO := Lib.hid O; clear O
  clear hbn
  go_wp2_with fail
  refine (alike_any u1 u2 t _ HU1.out HU2.out htl).mono ?_
  rintro en wn ⟨rfl, hbn⟩
  replace HL2 := Lib.hid ((HL2.out.below hbn (Nat.le_refl _)).more hbn.size)
  replace HL := Lib.hid ((HL.out.below hbn (Nat.le_refl _)).more hbn.size)
  have O := HO.out.keep hbn
  clear HO zz
  have zz := O.rules
  have HO := Lib.hid O; clear O
  clear hbn
  rw [← HLL.out]
  clear HLL H1 H2 H3 H4 H5 H6 H7 H8 H9 H10 H11
  by_cases he : ed = 0
  · have hzz : z = 4607182418800017408 := by
      rcases HZ.out with h | h
      · exact absurd he h
      · exact h
    subst he hzz
    clear HZ
    cases g1 <;> cases g2 <;> first | (cases HG.out; done) | skip
    all_goals clear HG
    · 
      go_wp2_with fail
      refine (H12.out _ _ _ HL2.out ((HA.out.below HO.out.below (Nat.le_refl _)).more HO.out.size)).mono ?_
      rintro en wn ⟨rfl, hbn⟩
      replace HL2 := Lib.hid ((HL2.out.below hbn (Nat.le_refl _)).more hbn.size)
      replace HL := Lib.hid ((HL.out.below hbn (Nat.le_refl _)).more hbn.size)
      have O := HO.out.keep hbn
      clear HO zz
      have zz := O.rules
      have HO := Lib.hid O; clear O
      clear hbn
      go_wp2_with fail
      refine (H13.out _ _ _ HL.out ((HA.out.below HO.out.below (Nat.le_refl _)).more HO.out.size)).mono ?_
      rintro en wn ⟨rfl, hbn⟩
      replace HL2 := Lib.hid ((HL2.out.below hbn (Nat.le_refl _)).more hbn.size)
      replace HL := Lib.hid ((HL.out.below hbn (Nat.le_refl _)).more hbn.size)
      have O := HO.out.keep hbn
      clear HO zz
      have zz := O.rules
      have HO := Lib.hid O; clear O
      clear hbn
      go_wp2_with fail
      refine (H14.out _ _ _ HL.out ((HB.out.below HO.out.below (Nat.le_refl _)).more HO.out.size)).mono ?_
      rintro en wn ⟨rfl, hbn⟩
      replace HL2 := Lib.hid ((HL2.out.below hbn (Nat.le_refl _)).more hbn.size)
      replace HL := Lib.hid ((HL.out.below hbn (Nat.le_refl _)).more hbn.size)
      have O := HO.out.keep hbn
      clear HO zz
      have zz := O.rules
      have HO := Lib.hid O; clear O
      clear hbn
      go_wp2_with fail
      go_ret
      exact ⟨rfl, HO.out.below⟩
    · 
      go_wp2_with fail
      refine (H12.out _ _ _ HL2.out ((HA.out.below HO.out.below (Nat.le_refl _)).more HO.out.size)).mono ?_
      rintro en wn ⟨rfl, hbn⟩
      replace HL2 := Lib.hid ((HL2.out.below hbn (Nat.le_refl _)).more hbn.size)
      replace HL := Lib.hid ((HL.out.below hbn (Nat.le_refl _)).more hbn.size)
      have O := HO.out.keep hbn
      clear HO zz
      have zz := O.rules
      have HO := Lib.hid O; clear O
      clear hbn
      go_wp2_with fail
      refine (H13.out _ _ _ HL.out ((HA.out.below HO.out.below (Nat.le_refl _)).more HO.out.size)).mono ?_
      rintro en wn ⟨rfl, hbn⟩
      replace HL2 := Lib.hid ((HL2.out.below hbn (Nat.le_refl _)).more hbn.size)
      replace HL := Lib.hid ((HL.out.below hbn (Nat.le_refl _)).more hbn.size)
      have O := HO.out.keep hbn
      clear HO zz
      have zz := O.rules
      have HO := Lib.hid O; clear O
      clear hbn
      go_wp2_with fail
      refine (H14.out _ _ _ HL.out ((HB.out.below HO.out.below (Nat.le_refl _)).more HO.out.size)).mono ?_
      rintro en wn ⟨rfl, hbn⟩
      replace HL2 := Lib.hid ((HL2.out.below hbn (Nat.le_refl _)).more hbn.size)
      replace HL := Lib.hid ((HL.out.below hbn (Nat.le_refl _)).more hbn.size)
      have O := HO.out.keep hbn
      clear HO zz
      have zz := O.rules
      have HO := Lib.hid O; clear O
      clear hbn
      go_wp2_with fail
      go_ret
      exact ⟨rfl, HO.out.below⟩
    · 
      go_wp2_with fail
      refine (H12.out _ _ _ HL2.out ((HA.out.below HO.out.below (Nat.le_refl _)).more HO.out.size)).mono ?_
      rintro en wn ⟨rfl, hbn⟩
      replace HL2 := Lib.hid ((HL2.out.below hbn (Nat.le_refl _)).more hbn.size)
      replace HL := Lib.hid ((HL.out.below hbn (Nat.le_refl _)).more hbn.size)
      have O := HO.out.keep hbn
      clear HO zz
      have zz := O.rules
      have HO := Lib.hid O; clear O
      clear hbn
      go_wp2_with fail
      refine (H13.out _ _ _ HL.out ((HA.out.below HO.out.below (Nat.le_refl _)).more HO.out.size)).mono ?_
      rintro en wn ⟨rfl, hbn⟩
      replace HL2 := Lib.hid ((HL2.out.below hbn (Nat.le_refl _)).more hbn.size)
      replace HL := Lib.hid ((HL.out.below hbn (Nat.le_refl _)).more hbn.size)
      have O := HO.out.keep hbn
      clear HO zz
      have zz := O.rules
      have HO := Lib.hid O; clear O
      clear hbn
      go_wp2_with fail
      refine (H14.out _ _ _ HL.out ((HB.out.below HO.out.below (Nat.le_refl _)).more HO.out.size)).mono ?_
      rintro en wn ⟨rfl, hbn⟩
      replace HL2 := Lib.hid ((HL2.out.below hbn (Nat.le_refl _)).more hbn.size)
      replace HL := Lib.hid ((HL.out.below hbn (Nat.le_refl _)).more hbn.size)
      have O := HO.out.keep hbn
      clear HO zz
      have zz := O.rules
      have HO := Lib.hid O; clear O
      clear hbn
      go_wp2_with fail
      go_ret
      exact ⟨rfl, HO.out.below⟩
  · have he1 : (ed != 0) = true := by simpa using he
    have he2 : (ed == 0) = false := by simpa using he
    clear HZ
    cases g1 <;> cases g2 <;> first | (cases HG.out; done) | skip
    all_goals clear HG
    · 
      go_wp2_with fail
      refine (H12.out _ _ _ HL2.out ((HA.out.below HO.out.below (Nat.le_refl _)).more HO.out.size)).mono ?_
      rintro en wn ⟨rfl, hbn⟩
      replace HL2 := Lib.hid ((HL2.out.below hbn (Nat.le_refl _)).more hbn.size)
      replace HL := Lib.hid ((HL.out.below hbn (Nat.le_refl _)).more hbn.size)
      have O := HO.out.keep hbn
      clear HO zz
      have zz := O.rules
      have HO := Lib.hid O; clear O
      clear hbn
      go_wp2_with fail
      refine (H13.out _ _ _ HL.out ((HA.out.below HO.out.below (Nat.le_refl _)).more HO.out.size)).mono ?_
      rintro en wn ⟨rfl, hbn⟩
      replace HL2 := Lib.hid ((HL2.out.below hbn (Nat.le_refl _)).more hbn.size)
      replace HL := Lib.hid ((HL.out.below hbn (Nat.le_refl _)).more hbn.size)
      have O := HO.out.keep hbn
      clear HO zz
      have zz := O.rules
      have HO := Lib.hid O; clear O
      clear hbn
      go_wp2_with fail
      refine (H14.out _ _ _ HL.out ((HB.out.below HO.out.below (Nat.le_refl _)).more HO.out.size)).mono ?_
      rintro en wn ⟨rfl, hbn⟩
      replace HL2 := Lib.hid ((HL2.out.below hbn (Nat.le_refl _)).more hbn.size)
      replace HL := Lib.hid ((HL.out.below hbn (Nat.le_refl _)).more hbn.size)
      have O := HO.out.keep hbn
      clear HO zz
      have zz := O.rules
      have HO := Lib.hid O; clear O
      clear hbn
      go_wp2_with fail
      go_ret
      exact ⟨rfl, HO.out.below⟩
    · 
      go_wp2_with fail
      refine (H12.out _ _ _ HL2.out ((HA.out.below HO.out.below (Nat.le_refl _)).more HO.out.size)).mono ?_
      rintro en wn ⟨rfl, hbn⟩
      replace HL2 := Lib.hid ((HL2.out.below hbn (Nat.le_refl _)).more hbn.size)
      replace HL := Lib.hid ((HL.out.below hbn (Nat.le_refl _)).more hbn.size)
      have O := HO.out.keep hbn
      clear HO zz
      have zz := O.rules
      have HO := Lib.hid O; clear O
      clear hbn
      go_wp2_with fail
      refine (H13.out _ _ _ HL.out ((HA.out.below HO.out.below (Nat.le_refl _)).more HO.out.size)).mono ?_
      rintro en wn ⟨rfl, hbn⟩
      replace HL2 := Lib.hid ((HL2.out.below hbn (Nat.le_refl _)).more hbn.size)
      replace HL := Lib.hid ((HL.out.below hbn (Nat.le_refl _)).more hbn.size)
      have O := HO.out.keep hbn
      clear HO zz
      have zz := O.rules
      have HO := Lib.hid O; clear O
      clear hbn
      go_wp2_with fail
      refine (H14.out _ _ _ HL.out ((HB.out.below HO.out.below (Nat.le_refl _)).more HO.out.size)).mono ?_
      rintro en wn ⟨rfl, hbn⟩
      replace HL2 := Lib.hid ((HL2.out.below hbn (Nat.le_refl _)).more hbn.size)
      replace HL := Lib.hid ((HL.out.below hbn (Nat.le_refl _)).more hbn.size)
      have O := HO.out.keep hbn
      clear HO zz
      have zz := O.rules
      have HO := Lib.hid O; clear O
      clear hbn
      go_wp2_with fail
      go_ret
      exact ⟨rfl, HO.out.below⟩
    · 
      go_wp2_with fail
      refine (H12.out _ _ _ HL2.out ((HA.out.below HO.out.below (Nat.le_refl _)).more HO.out.size)).mono ?_
      rintro en wn ⟨rfl, hbn⟩
      replace HL2 := Lib.hid ((HL2.out.below hbn (Nat.le_refl _)).more hbn.size)
      replace HL := Lib.hid ((HL.out.below hbn (Nat.le_refl _)).more hbn.size)
      have O := HO.out.keep hbn
      clear HO zz
      have zz := O.rules
      have HO := Lib.hid O; clear O
      clear hbn
      go_wp2_with fail
      refine (H13.out _ _ _ HL.out ((HA.out.below HO.out.below (Nat.le_refl _)).more HO.out.size)).mono ?_
      rintro en wn ⟨rfl, hbn⟩
      replace HL2 := Lib.hid ((HL2.out.below hbn (Nat.le_refl _)).more hbn.size)
      replace HL := Lib.hid ((HL.out.below hbn (Nat.le_refl _)).more hbn.size)
      have O := HO.out.keep hbn
      clear HO zz
      have zz := O.rules
      have HO := Lib.hid O; clear O
      clear hbn
      go_wp2_with fail
      refine (H14.out _ _ _ HL.out ((HB.out.below HO.out.below (Nat.le_refl _)).more HO.out.size)).mono ?_
      rintro en wn ⟨rfl, hbn⟩
      replace HL2 := Lib.hid ((HL2.out.below hbn (Nat.le_refl _)).more hbn.size)
      replace HL := Lib.hid ((HL.out.below hbn (Nat.le_refl _)).more hbn.size)
      have O := HO.out.keep hbn
      clear HO zz
      have zz := O.rules
      have HO := Lib.hid O; clear O
      clear hbn
      go_wp2_with fail
      go_ret
      exact ⟨rfl, HO.out.below⟩
theorem likeRows_wide (n m c d : Nat) (size : Int) (A B : Option Addr) (w : World) (x y : Bool)
    (h1 : ∀ w, Calls Try.prog 14 #[.slice A n c, .slice B m d] w fun en w' => en = .returned (.bool x) ∧ w = w')
    (h2 : ∀ w, Calls Try.prog 14 #[.slice A n c, .slice A n c] w fun en w' => en = .returned (.bool y) ∧ w = w') (hx : (x || y) = true) :
    Calls Try.prog 10 #[.slice A n c, .slice B m d, .int .i64 size] w fun en w' => en = .returned (.bool true) ∧ Below w.heap.size w w' := by
  have H1 := Lib.hid h1; have H2 := Lib.hid h2
  clear h1 h2
  cases x
  · cases y
    · cases hx
    · clear hx
      go_enter Try.func10, Try.ntmps10
      go_wp2_with fail
      refine (H1.out _).mono ?_
      rintro en wn ⟨rfl, rfl⟩
      go_wp2_with fail
      refine (H2.out _).mono ?_
      rintro en wn ⟨rfl, rfl⟩
      go_wp2_with fail
      refine (awake_any _).mono ?_
      rintro en wn ⟨rfl, hbn⟩
      have HBN := Lib.hid hbn
      clear hbn
      go_wp2_with fail
      go_ret
      exact ⟨rfl, HBN.out⟩
  · clear hx
    go_enter Try.func10, Try.ntmps10
    go_wp2_with fail
    refine (H1.out _).mono ?_
    rintro en wn ⟨rfl, rfl⟩
    go_wp2_with fail
    refine (awake_any _).mono ?_
    rintro en wn ⟨rfl, hbn⟩
    have HBN := Lib.hid hbn
    clear hbn
    go_wp2_with fail
    go_ret
    exact ⟨rfl, HBN.out⟩

theorem likeRows_walk (n m c d : Nat) (size : Int) (A B : Option Addr) (fa fb : Nat → Int) (w : World) (hA : NameAt w w.heap.size A n fa) (hB : NameAt w w.heap.size B m fb) (hn : n ≤ 1048576) (hm : m ≤ 1048576) (hc : n ≤ c) (hd : m ≤ d) :
    Calls Try.prog 10 #[.slice A n c, .slice B m d, .int .i64 size] w fun en w' => en = .returned (.bool true) ∧ Below w.heap.size w w' := by
  have hw1 := fun w => wide_any n m c d A B w hn hm
  have hw2 := fun w => wide_any n n c c A A w hn hn
  cases hx : (wideB n m || wideB n n)
  · simp only [Bool.or_eq_false_iff] at hx
    rw [hx.1] at hw1
    rw [hx.2] at hw2
    have hsy : wideB m n = false := by rw [← hx.1]; unfold wideB; rw [Nat.mul_comm]
    have e1 : (cm n m fa fb 0 0).length = lc n m fa fb 0 0 := cm_length _ 0 0 (Nat.le_refl _) (by omega)
    have e2 : (cm m n fb fa 0 0).length = lc m n fb fa 0 0 := cm_length _ 0 0 (Nat.le_refl _) (by omega)
    have e3 : lc n m fa fb 0 0 = lc m n fb fa 0 0 := lc_symm _ 0 0 (Nat.le_refl _)
    have e4 : lc n m fa fb 0 0 ≤ n := Nat.le_trans lc_n (by omega)
    have e5 := lev_left (n := n) (m := m) (a := fa) (b := fb)
    have hlv := (lev_le fa fb _ n m rfl).1
    have eo := (cm_self (n := n) (a := fa) n 0 (by omega)).1
    have eol : (cm n n fa fa 0 0).length = n := by rw [eo]; simp
    have hE := cm_emb (n := n) (m := m) (a := fa) (b := fb) n 0 0 (by omega) (by omega)
    have lk : ∀ (N M : Nat) (f g : Nat → Int), gone (diW N M size f g) (diE size) < 2 ^ 64 := fun N M f g => gone_lt (diW_lt N M size f g)
    have hsw : diW m n size fb fa = diW n m size fa fb := diV_symm _ _ _ _ _
    refine likeRows_core n m c d (fl (lev fa fb n m)) (fl (n + m - 2 * lc n m fa fb 0 0)) (gone (diW n m size fa fb) (diE size)) (gone ONE (diE size)) size (diE size) (hamV n m fa fb) (decide (n = m)) _ _ A B fa fb (cm n m fa fb 0 0) (cm m n fb fa 0 0) (cm n n fa fa 0 0) w hA hB (lk _ _ _ _) (by omega) ?_
      ?_ (flt_fl (by omega) (by omega)) (feq_fl (by omega) (by omega)) ?_ (by omega) hn hm hw1 hw2
      (fun w hA hB => common_any n m c d A B fa fb w hA hB hn hm hx.1) (fun w hA hB => common_any m n d c B A fb fa w hB hA hm hn hsy) (fun w hA hB => common_any n n c c A A fa fa w hA hA hn hn hx.2)
      (fun w hA hB => vdist_any n m c d A B fa fb w hA hB hn hm hx.1)
      (fun w hA hB => lk_of_share (dice_any A B n m c d size fa fb w hA hB (by omega) (by omega) hc hd))
      (fun w hA hB => hsw ▸ lk_of_share (dice_any B A m n d c size fb fa w hB hA (by omega) (by omega) hd hc))
      (fun w hA hB => (lk_of_share (dice_any A A n n c c size fa fa w hA hA (by omega) (by omega) hc hc)).mono ?_)
      (fun w hA hB => hamming_any A B n m c d fa fb w hA hB (by omega) (by omega)) (fun w hA hB => (hamming_any B A m n d c fb fa w hB hA (by omega) (by omega)).mono ?_)
      (fun L cl w hL hA => (names_any L A _ n cl c _ fa w hL hA (by omega) hn).mono ?_)
      (fun L cl w hL hA => stands_any L A n cl c _ fa w hL hA hn (by omega) hE.1)
      (fun L cl w hL hB => stands_any L B m cl d _ fb w hL hB hm (by omega) hE.2)
    · by_cases h0 : diE size = 0
      · right; unfold gone; rw [if_pos h0]; rfl
      · exact .inl h0
    · rw [e1, ← floatInt_fl]; congr 1; omega
    · simp; omega
    · rintro en w' ⟨u, rfl, h1, h2⟩
      have h3 : u = gone ONE (diE size) := by
        have : diW n n size fa fa = ONE := diV_self n _ fa hn
        rw [this] at h1
        exact cn_eq h1 (by unfold gone; split <;> decide)
      rw [h3]; exact ⟨rfl, h2⟩
    · rintro en w' ⟨rfl, h2⟩
      refine ⟨?_, h2⟩
      have h3 : hamV m n fb fa = hamV n m fa fb := by
        unfold hamV
        by_cases e : n = m
        · subst e; rw [if_pos rfl, if_pos rfl]; exact hamN_comm _ _ _
        · rw [if_neg e, if_neg (fun h => e h.symm)]
      rw [h3]
      have h4 : decide (m = n) = decide (n = m) := by rw [decide_eq_decide]; exact ⟨Eq.symm, Eq.symm⟩
      rw [h4]
    · rintro en w' ⟨rfl, h2⟩
      refine ⟨?_, h2⟩
      have h3 : sameB (cm n n fa fa 0 0).length n (fun q => (cm n n fa fa 0 0).getD q 0) fa = true := by
        unfold sameB
        rw [decide_eq_true_iff]
        refine ⟨eol, fun k hk => ?_⟩
        rw [eol] at hk
        rw [eo]
        show ((List.range (n - 0)).map (fun q => fa (0 + q))).getD k 0 = fa k
        rw [List.getD_eq_getElem?_getD, List.getElem?_map, List.getElem?_range (by omega)]
        simp
      rw [h3]
  · exact likeRows_wide n m c d size A B w _ _ hw1 hw2 hx

theorem likeRows_own : ownKnob Try.prog.godebug = none := by kernel_rfl
theorem likeRows_laid : laidOutB Try.prog = true := by kernel_rfl
theorem likeRows_types : ∀ t ∈ ([22, 22, 3] : List TypeId), Try.prog.readableRec t = true ∧ t < Try.prog.types.size := by
  simp only [List.mem_cons, List.not_mem_nil, or_false, forall_eq_or_imp, forall_eq]
  exact ⟨⟨by kernel_rfl, of_decide_eq_true (by kernel_rfl)⟩, ⟨by kernel_rfl, of_decide_eq_true (by kernel_rfl)⟩, ⟨by kernel_rfl, of_decide_eq_true (by kernel_rfl)⟩⟩
set_option maxRecDepth 100000 in
theorem likeRows_lifted (os : Os) (started : os.Started) (H : Type) (enc : TypeId × Value → H) (F : Stop.Interp) :
    ReturnsInHanded {} Try.checked os 10 .any ((Rows.OpenSpec.upto Rows.likeRowsSpec).pre6 enc Try.prog Try.f10 Rows.likeRowsUptoRow.domain false) (((Rows.OpenSpec.upto Rows.likeRowsSpec).at F).post enc Try.prog Try.f10 false true false false) := by
  refine returnsInHanded_of_cond (C := Try.checked) (s := Rows.OpenSpec.upto Rows.likeRowsSpec) (k := Rows.uptoSmall) rfl likeRows_own started (by kernel_rfl) Try.func10
    (OpenSpec.witness (enc := enc) (C := Try.checked) (s := Rows.OpenSpec.upto Rows.likeRowsSpec) (k := Rows.uptoSmall) rfl false ⟨#[], #[.slice none 0 0, .slice none 0 0, .int .i64 0], []⟩ 8 (by kernel_rfl) (by kernel_rfl) (by kernel_rfl) (x := ([.nil, .nil, .lit (.int .i64 0)], [], [])) (by kernel_rfl) rfl (by kernel_rfl)) ?_
  intro W base args ds gs before hval0 hW _ hk _
  have hval : ∀ (j : Nat) t v, Try.f10.params[j]? = some t → args[j]? = some v → Value.okWide Try.prog W .any base t v := hval0
  have hW' := hW
  obtain ⟨p, q, hA0, hV, rfl, hfz, hnd⟩ := hW
  have hA : DataW.TrodAll enc Try.prog W 0 (fun _ => true) true Try.f10.params.toList args.toList ds p := hA0
  obtain ⟨rfl, rfl⟩ := trodVars_none hV
  have hpost : ∀ W', Below W.heap.size W W' → Rows.likeRowsSpec.post enc Try.prog Try.f10 false true false false W args (.bool true) W' := fun W' hb => by
    have hlen : ds.length = 3 := by have hh := hA; rw [Try.params10] at hh; obtain ⟨_, _, d0, ds0, _, _, _, rfl, _, _, hh⟩ := trodAll_cons hh; obtain ⟨_, _, d1, ds1, _, _, _, rfl, _, _, hh⟩ := trodAll_cons hh; obtain ⟨_, _, d2, ds2, _, _, _, rfl, _, _, hh⟩ := trodAll_cons hh; obtain ⟨_, rfl, _⟩ := trodAll_nil hh; simp
    obtain ⟨e0, e1, e2, rfl⟩ : ∃ e0 e1 e2, ds = [e0, e1, e2] := by match ds, hlen with | [e0, e1, e2], _ => exact ⟨e0, e1, e2, rfl⟩
    exact law_post likeRows_laid rfl hW' (by rw [Try.params10]; exact likeRows_types) (tb := 4) (by kernel_rfl) Try.underlying4 rfl rfl rfl hb
  rw [Try.params10] at hA hval
  obtain ⟨v0, vs0, d0, ds0, p0, q0, hargs, rfl, rfl, h0, r0⟩ := trodAll_cons hA
  obtain ⟨v1, vs1, d1, ds1, p1, q1, rfl, rfl, rfl, h1, r1⟩ := trodAll_cons r0
  obtain ⟨v2, vs2, d2, ds2, p2, q2, rfl, rfl, rfl, h2, r2⟩ := trodAll_cons r1
  obtain ⟨rfl, rfl, rfl⟩ := trodAll_nil r2
  obtain rfl : args = #[v0, v1, v2] := by cases args; simp_all
  obtain ⟨A, n, c, fa, rfl, bA, nA⟩ := open_name Try.underlying22 Try.underlying21 (by kernel_rfl) (hval 0 22 v0 rfl rfl) h0
  have hnc := len_cap Try.underlying22 h0
  obtain ⟨B, m, d, fb, rfl, bB, nB⟩ := open_name Try.underlying22 Try.underlying21 (by kernel_rfl) (hval 1 22 v1 rfl rfl) h1
  have hmd := len_cap Try.underlying22 h1
  obtain ⟨size, rfl, rfl, rfl, w2⟩ := open_int Try.underlying3 (hval 2 3 v2 rfl rfl) h2
  have hbk := upto_bound hk
  simp only [Rows.uptoBulkAll, List.cons_append, List.nil_append, List.append_nil] at hbk
  refine (likeRows_walk n m c d size A B fa fb W nA nB (by omega) (by omega) hnc hmd).mono fun e W' ⟨he, hg⟩ => ?_
  subst he
  exact ⟨_, rfl, hpost _ hg⟩

theorem likeRows_holds : Rows.LikeRowsUptoSaid :=
  OpenClaim.holds_of_cond 10 Try.f10 rfl rfl rfl rfl rfl rfl rfl ⟨rfl, rfl, rfl, rfl, rfl⟩ rfl rfl rfl rfl rfl (by kernel_rfl) Try.func10 (by kernel_rfl)
    (of_decide_eq_true (by kernel_rfl)) (by unfold Func.isWrapper; first | (rw [if_pos (by decide +kernel)]; kernel_rfl) | (rw [if_neg (by decide +kernel)]; exact ⟨rfl, rfl⟩))
    (fun os started H enc _ F => likeRows_lifted os started H enc F)
#print axioms likeRows_holds

end Go.Proofs.Ytkhdemaanakbeaa
