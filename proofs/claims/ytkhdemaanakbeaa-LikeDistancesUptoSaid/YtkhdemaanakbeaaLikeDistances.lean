/- Distances and tables are the document's: the law LikeDistances returns true for every input of the bound. Condition: what is read is of bulk at most 1048576. -/
import Derived.Test.YtkhdemaanakbeaaLs
import Derived.Test.YtkhdemaanakbeaaUi
import Derived.Test.YtkhdemaanakbeaaBl
namespace Go.Proofs.Ytkhdemaanakbeaa
open Go.RowKit Go.Pst Go.ChangeShapes Go.WideShapes Go.ChangeAt Go.Joins Go.Deep
set_option maxRecDepth 100000
set_option linter.unusedSimpArgs false
set_option linter.unusedVariables false

def RTPost2 (T : Nat → Nat → Nat) (n m : Nat) (w : World) (en : Ending) (w' : World) : Prop :=
  ∃ g cap R C H, en = .returned (.slice (some ⟨g, 0, none⟩) (n + 1) cap) ∧ Below w.heap.size w w' ∧ w'.ownsRow (H + 1) 51 1 (.slice (some ⟨g, 0, none⟩) (n + 1) cap) (n + 1) (rows R C (m + 1) (n + 1)) ∧
    RowsR w' H (m + 1) (n + 1) R T 23 ∧ g < w'.heap.size



set_option maxHeartbeats 16000000 in
theorem likeDist_core (cI cO cX cT np cp n m c d r1 : Nat) (Ap A B : Option Addr) (p : Nat → Int × Int × Nat) (fa fb : Nat → Int) (e r2 : Int) (T : Nat → Nat → Nat) (w : World) (hA : NameAt w w.heap.size A n fa) (hB : NameAt w w.heap.size B m fb) (hp : PairsAt w w.heap.size Ap np p)
    (hn : n ≤ 1048576) (hm : m ≤ 1048576) (hnp : np ≤ 1048576)
    (hG : ∀ w, PairsAt w w.heap.size Ap np p → Calls Try.prog 18 #[.agg #[.float .f64 cI, .float .f64 cO, .float .f64 cX, .float .f64 cT, .slice Ap np cp]] w (GivenPost cI cO cX cT np p w))
    (hC : ∀ w, PairsAt w w.heap.size Ap np p → Calls Try.prog 20 #[.agg #[.float .f64 cI, .float .f64 cO, .float .f64 cX, .float .f64 cT, .slice Ap np cp]] w fun en w' => en = .returned (.tuple #[.int .i64 r1, .int .i64 r2]) ∧ Below w.heap.size w w')
    (hRC : ∀ A' c' w, PairsAt w w.heap.size A' np p → Calls Try.prog 21 #[.agg #[.float .f64 cI, .float .f64 cO, .float .f64 cX, .float .f64 cT, .slice A' np c']] w fun en w' => en = .returned (.tuple #[.int .i64 r1, .int .i64 r2]) ∧ Below w.heap.size w w')
    (hD : ∀ w, NameAt w w.heap.size A n fa → NameAt w w.heap.size B m fb → PairsAt w w.heap.size Ap np p → Calls Try.prog 13 #[.agg #[.float .f64 cI, .float .f64 cO, .float .f64 cX, .float .f64 cT, .slice Ap np cp], .slice A n c, .slice B m d] w (DistPost T e n m w))
    (hM : ∀ w, NameAt w w.heap.size A n fa → NameAt w w.heap.size B m fb → PairsAt w w.heap.size Ap np p → Calls Try.prog 22 #[.agg #[.float .f64 cI, .float .f64 cO, .float .f64 cX, .float .f64 cT, .slice Ap np cp], .slice A n c, .slice B m d] w (MTPost T e n m w))
    (hW : ∀ A' c' w, PairsAt w w.heap.size A' np p → Calls Try.prog 17 #[.agg #[.float .f64 cI, .float .f64 cO, .float .f64 cX, .float .f64 cT, .slice A' np c'], .slice A n c, .slice B m d] w fun en w' => en = .returned (.int .i64 e) ∧ Below w.heap.size w w')
    (hRT : e = 0 → ∀ A' c' w, NameAt w w.heap.size A n fa → NameAt w w.heap.size B m fb → PairsAt w w.heap.size A' np p → Calls Try.prog 23 #[.agg #[.float .f64 cI, .float .f64 cO, .float .f64 cX, .float .f64 cT, .slice A' np c'], .slice A n c, .slice B m d] w (RTPost2 T n m w))
    (hlt : ∀ i j, T i j < 2 ^ 64) :
    Calls Try.prog 5 #[.agg #[.float .f64 cI, .float .f64 cO, .float .f64 cX, .float .f64 cT, .slice Ap np cp], .slice A n c, .slice B m d] w fun en w' => en = .returned (.bool true) ∧ Below w.heap.size w w' := by
  have HA := Lib.hid hA; have HB := Lib.hid hB; have HP := Lib.hid hp; have HG := Lib.hid hG; have HC := Lib.hid hC; have HRC := Lib.hid hRC; have HD := Lib.hid hD; have HM := Lib.hid hM; have HWR := Lib.hid hW; have HRT := Lib.hid hRT; have LT := Lib.hid hlt
  clear hA hB hp hG hC hRC hD hM hW hRT hlt
  by_cases he : e = 0
  · have HE := Lib.hid he
    subst he
    go_enter Try.func5, Try.ntmps5
    go_wp2_with fail
    have O := (Reg.Own.nil w).alloc rfl #[.float .f64 cI, .float .f64 cO, .float .f64 cX, .float .f64 cT, .slice Ap np cp] 26
    obtain ⟨c0, f0, z0, y0, -, zz⟩ := O.rules
    have HO := Lib.hid O; clear O
    refine (HG.out _ ((HP.out.below HO.out.below (Nat.le_refl _)).more HO.out.size)).mono ?_
    rintro en wg ⟨A', c', rfl, hp', hbn⟩
    have HP' := Lib.hid hp'
    clear hp'
    have O := HO.out.keep hbn
    clear HO c0 f0 z0 y0 zz
    obtain ⟨c0, f0, z0, y0, -, zz⟩ := O.rules
    have HO := Lib.hid O; clear O
    clear hbn
    go_wp2_with fail
    have BG := Lib.hid ((Below.refl wg.heap.size wg).alloc (Nat.le_refl _) (.cells #[.float .f64 cI, .float .f64 cO, .float .f64 cX, .float .f64 cT, .slice A' np c'] 39))
    have O := HO.out.alloc rfl #[.float .f64 cI, .float .f64 cO, .float .f64 cX, .float .f64 cT, .slice A' np c'] 39
    clear HO c0 f0 z0 y0 zz
    obtain ⟨c1, f1, z1, y1, ⟨n10, -⟩, c0, f0, z0, y0, -, zz⟩ := O.rules
    have HO := Lib.hid O; clear O
    refine (HC.out _ ((HP.out.below HO.out.below (Nat.le_refl _)).more HO.out.size)).mono ?_
    rintro en wn ⟨rfl, hbn⟩
    replace BG := Lib.hid (BG.out.trans (hbn.mono BG.out.size))
    have O := HO.out.keep hbn
    clear HO c1 f1 z1 y1 n10 c0 f0 z0 y0 zz
    obtain ⟨c1, f1, z1, y1, ⟨n10, -⟩, c0, f0, z0, y0, -, zz⟩ := O.rules
    have HO := Lib.hid O; clear O
    clear hbn
    go_wp2_with fail
    refine (HRC.out _ _ _ ((HP'.out.below BG.out (Nat.le_refl _)).more BG.out.size)).mono ?_
    rintro en wn ⟨rfl, hbn⟩
    replace BG := Lib.hid (BG.out.trans (hbn.mono BG.out.size))
    have O := HO.out.keep hbn
    clear HO c1 f1 z1 y1 n10 c0 f0 z0 y0 zz
    obtain ⟨c1, f1, z1, y1, ⟨n10, -⟩, c0, f0, z0, y0, -, zz⟩ := O.rules
    have HO := Lib.hid O; clear O
    clear hbn
    go_wp2_with fail
    refine (HD.out _ ((HA.out.below HO.out.below (Nat.le_refl _)).more HO.out.size) ((HB.out.below HO.out.below (Nat.le_refl _)).more HO.out.size) ((HP.out.below HO.out.below (Nat.le_refl _)).more HO.out.size)).mono ?_
    rintro en wn ⟨u, rfl, hu1, hu2, hbn⟩
    have HU1 := Lib.hid hu1
    have HU2 := Lib.hid hu2
    clear hu1 hu2
    replace BG := Lib.hid (BG.out.trans (hbn.mono BG.out.size))
    have O := HO.out.keep hbn
    clear HO c1 f1 z1 y1 n10 c0 f0 z0 y0 zz
    obtain ⟨c1, f1, z1, y1, ⟨n10, -⟩, c0, f0, z0, y0, -, zz⟩ := O.rules
    have HO := Lib.hid O; clear O
    clear hbn
    go_wp2_with fail
    refine (HM.out _ ((HA.out.below HO.out.below (Nat.le_refl _)).more HO.out.size) ((HB.out.below HO.out.below (Nat.le_refl _)).more HO.out.size) ((HP.out.below HO.out.below (Nat.le_refl _)).more HO.out.size)).mono ?_
    rintro en wn ⟨hbn, ⟨h0, -⟩ | ⟨-, Bk, R, H, rfl, g⟩⟩
    · exact absurd rfl h0
    have GR := Lib.hid g
    clear g
    replace BG := Lib.hid (BG.out.trans (hbn.mono BG.out.size))
    have O := HO.out.keep hbn
    clear HO c1 f1 z1 y1 n10 c0 f0 z0 y0 zz
    obtain ⟨c1, f1, z1, y1, ⟨n10, -⟩, c0, f0, z0, y0, -, zz⟩ := O.rules
    have HO := Lib.hid O; clear O
    clear hbn
    go_wp2_with fail
    refine (HWR.out _ _ _ ((HP'.out.below BG.out (Nat.le_refl _)).more BG.out.size)).mono ?_
    rintro en wn ⟨rfl, hbn⟩
    replace GR := Lib.hid (GR.out.below hbn)
    replace BG := Lib.hid (BG.out.trans (hbn.mono BG.out.size))
    have O := HO.out.keep hbn
    clear HO c1 f1 z1 y1 n10 c0 f0 z0 y0 zz
    obtain ⟨c1, f1, z1, y1, ⟨n10, -⟩, c0, f0, z0, y0, -, zz⟩ := O.rules
    have HO := Lib.hid O; clear O
    clear hbn
    go_wp2_with fail
    refine (awake_any _).mono ?_
    rintro en wn ⟨rfl, hbn⟩
    replace GR := Lib.hid (GR.out.below hbn)
    replace BG := Lib.hid (BG.out.trans (hbn.mono BG.out.size))
    have O := HO.out.keep hbn
    clear HO c1 f1 z1 y1 n10 c0 f0 z0 y0 zz
    obtain ⟨c1, f1, z1, y1, ⟨n10, -⟩, c0, f0, z0, y0, -, zz⟩ := O.rules
    have HO := Lib.hid O; clear O
    clear hbn
    go_wp2_with fail
    refine (HRT.out (by first | exact rfl | exact trivial) _ _ _ ((HA.out.below HO.out.below (Nat.le_refl _)).more HO.out.size) ((HB.out.below HO.out.below (Nat.le_refl _)).more HO.out.size) ((HP'.out.below BG.out (Nat.le_refl _)).more BG.out.size)).mono ?_
    rintro en wn ⟨g2, cap2, R2, C2, H2, rfl, hbn, hown, hrw, hg2⟩
    replace GR := Lib.hid (GR.out.below hbn)
    replace BG := Lib.hid (BG.out.trans (hbn.mono BG.out.size))
    have O := HO.out.keep hbn
    clear HO c1 f1 z1 y1 n10 c0 f0 z0 y0 zz
    obtain ⟨c1, f1, z1, y1, ⟨n10, -⟩, c0, f0, z0, y0, -, zz⟩ := O.rules
    have HO := Lib.hid O; clear O
    clear hbn
    have OD := Lib.hid hown
    have RW := Lib.hid hrw
    clear hown hrw BG
    have dP := own_cell OD.out (rows_get R2 C2 (m + 1) (show n < n + 1 by omega))
    have rP := RW.out.lt (show n < n + 1 by omega)
    obtain ⟨x, qx, hx⟩ := RW.out.cell (show n < n + 1 by omega) (show m < m + 1 by omega)
    have HX := Lib.hid hx; clear hx
    have hn1 : (n : Int) < (n : Int) + 1 := by omega
    have hm1 : (m : Int) < (m : Int) + 1 := by omega
    go_wp2_with fail
    refine (alike_any u x (T n m) _ (HU2.out (by first | exact rfl | exact trivial)) HX.out (LT.out n m)).mono ?_
    rintro en wn ⟨rfl, hbn⟩
    replace GR := Lib.hid (GR.out.below hbn)
    replace OD := Lib.hid (own_below OD.out hbn)
    replace RW := Lib.hid (RW.out.below hbn)
    have O := HO.out.keep hbn
    clear HO c1 f1 z1 y1 n10 c0 f0 z0 y0 zz
    obtain ⟨c1, f1, z1, y1, ⟨n10, -⟩, c0, f0, z0, y0, -, zz⟩ := O.rules
    have HO := Lib.hid O; clear O
    clear hbn dP rP qx
    go_wp2_with fail
    go_loopw [18] (fun t wr => ∃ i : Nat, t = .int .i64 i ∧ i ≤ n + 1 ∧ Grid wr H Bk (n + 1) (m + 1) (n + 1) R T ∧ wr.ownsRow (H2 + 1) 51 1 (.slice (some ⟨g2, 0, none⟩) (n + 1) cap2) (n + 1) (rows R2 C2 (m + 1) (n + 1)) ∧
        RowsR wr H2 (m + 1) (n + 1) R2 T 23 ∧ Below w.heap.size w wr) (fun t _ => n + 1 - (intOf t).toNat)
    case atStart => exact ⟨0, rfl, by omega, GR.out, OD.out, RW.out, HO.out.below⟩
    case round =>
      clear GR OD RW HO
      obtain ⟨i, rfl, hi1, g, hod, hrw, hbw⟩ := hrel
      have GR := Lib.hid g; have OD := Lib.hid hod; have RW := Lib.hid hrw; have BW := Lib.hid hbw
      clear g hod hrw hbw
      by_cases hi : i < n + 1
      · have h3 : (i : Int) < (n : Int) + 1 := by omega
        have h30 : (0 : Int) ≤ (i : Int) := by omega
        have dL := GR.out.done i hi
        have dP := own_cell OD.out (rows_get R2 C2 (m + 1) hi)
        have rL := GR.out.rlt i hi
        have rP := RW.out.lt hi
        have bL := GR.out.dlt
        have bP := (OD.out.lt g2 rfl).2
        go_wp2_with fail
        refine Reg.wp_region_rd (by kernel_rfl) (by kernel_rfl) (fun _ => ?_)
        repeat (refine Reg.rd_op rfl ?_; apply Exists.intro; apply And.intro; (intro w' hb; have hc := Reg.rd_cells hb; clear hb; go_simp; (try go_bits); first | done | (with_reducible exact rfl)); (intro _ a' ha'; simp only [Act.put, List.setIfInBounds_toArray, List.set_cons_zero, List.set_cons_succ] at ha'; subst ha'))
        refine Reg.rd_end (fun wz hb => ?_)
        replace GR := Lib.hid (GR.out.below hb)
        replace OD := Lib.hid (own_below OD.out hb)
        replace RW := Lib.hid (RW.out.below hb)
        replace BW := Lib.hid (BW.out.trans (hb.mono BW.out.size))
        clear hb dL dP rL rP bL bP
        go_wp2_with fail
        go_loopw [19] (fun t wr => ∃ j : Nat, t = .int .i64 j ∧ j ≤ m + 1 ∧ Grid wr H Bk (n + 1) (m + 1) (n + 1) R T ∧ wr.ownsRow (H2 + 1) 51 1 (.slice (some ⟨g2, 0, none⟩) (n + 1) cap2) (n + 1) (rows R2 C2 (m + 1) (n + 1)) ∧
            RowsR wr H2 (m + 1) (n + 1) R2 T 23 ∧ Below w.heap.size w wr) (fun t _ => m + 1 - (intOf t).toNat)
        case atStart => exact ⟨0, rfl, by omega, GR.out, OD.out, RW.out, BW.out⟩
        case round =>
          clear GR OD RW BW
          obtain ⟨j, rfl, hj1, g, hod, hrw, hbw⟩ := hrel
          have GR := Lib.hid g; have OD := Lib.hid hod; have RW := Lib.hid hrw; have BW := Lib.hid hbw
          clear g hod hrw hbw
          have dP := own_cell OD.out (rows_get R2 C2 (m + 1) hi)
          have bP := (OD.out.lt g2 rfl).2
          by_cases hj : j < m + 1
          · have h4 : (j : Int) < (m : Int) + 1 := by omega
            have h40 : (0 : Int) ≤ (j : Int) := by omega
            have dL := GR.out.done i hi
            have rL := GR.out.rlt i hi
            have rP := RW.out.lt hi
            have bL := GR.out.dlt
            obtain ⟨x1, q1, hx1⟩ := GR.out.cell i j hi hj
            obtain ⟨x2, q2, hx2⟩ := RW.out.cell hi hj
            have X1 := Lib.hid hx1; have X2 := Lib.hid hx2
            clear hx1 hx2
            go_wp2_with fail
            refine Reg.wp_region_rd (by kernel_rfl) (by kernel_rfl) (fun _ => ?_)
            repeat (refine Reg.rd_op rfl ?_; apply Exists.intro; apply And.intro; (intro w' hb; have hc := Reg.rd_cells hb; clear hb; go_simp; (try go_bits); first | done | (with_reducible exact rfl)); (intro _ a' ha'; simp only [Act.put, List.setIfInBounds_toArray, List.set_cons_zero, List.set_cons_succ] at ha'; subst ha'))
            refine Reg.rd_op rfl ?_; apply Exists.intro; apply And.intro
            · intro w' hb; have hsz := Reg.rd_size hb; clear hb; go_simp; (try go_bits); with_reducible exact alike_any x1 x2 (T i j) _ X1.out X2.out (LT.out i j)
            intro _ a' ha'; simp only [Act.put, List.setIfInBounds_toArray, List.set_cons_zero, List.set_cons_succ] at ha'; subst ha'
            repeat (refine Reg.rd_op rfl ?_; apply Exists.intro; apply And.intro; (intro w' hb; have hc := Reg.rd_cells hb; clear hb; go_simp; (try go_bits); first | done | (with_reducible exact rfl)); (intro _ a' ha'; simp only [Act.put, List.setIfInBounds_toArray, List.set_cons_zero, List.set_cons_succ] at ha'; subst ha'))
            refine Reg.rd_end (fun wz hb => ?_)
            replace GR := Lib.hid (GR.out.below hb)
            replace OD := Lib.hid (own_below OD.out hb)
            replace RW := Lib.hid (RW.out.below hb)
            replace BW := Lib.hid (BW.out.trans (hb.mono BW.out.size))
            clear hb dL dP rL rP bL bP q1 q2
            go_wp2_with fail
            go_roundw
            case rel => exact ⟨j + 1, by go_num, by omega, GR.out, OD.out, RW.out, BW.out⟩
            case measure => simp [intOf]; omega
          · have h4 : ¬ (j : Int) < (m : Int) + 1 := by omega
            go_wp2_with fail
            go_roundw
            case rel => exact ⟨i + 1, by go_num, by omega, GR.out, OD.out, RW.out, BW.out⟩
            case measure => simp [intOf]; omega
      · have h3 : ¬ (i : Int) < (n : Int) + 1 := by omega
        go_wp2_with fail
        go_ret
        exact ⟨rfl, BW.out⟩
  · have hne1 : (e == 0) = false := by simpa using he
    have hne2 : (e != 0) = true := by simpa using he
    have HE := Lib.hid he
    clear he HRT
    go_enter Try.func5, Try.ntmps5
    go_wp2_with fail
    have O := (Reg.Own.nil w).alloc rfl #[.float .f64 cI, .float .f64 cO, .float .f64 cX, .float .f64 cT, .slice Ap np cp] 26
    obtain ⟨c0, f0, z0, y0, -, zz⟩ := O.rules
    have HO := Lib.hid O; clear O
    refine (HG.out _ ((HP.out.below HO.out.below (Nat.le_refl _)).more HO.out.size)).mono ?_
    rintro en wg ⟨A', c', rfl, hp', hbn⟩
    have HP' := Lib.hid hp'
    clear hp'
    have O := HO.out.keep hbn
    clear HO c0 f0 z0 y0 zz
    obtain ⟨c0, f0, z0, y0, -, zz⟩ := O.rules
    have HO := Lib.hid O; clear O
    clear hbn
    go_wp2_with fail
    have BG := Lib.hid ((Below.refl wg.heap.size wg).alloc (Nat.le_refl _) (.cells #[.float .f64 cI, .float .f64 cO, .float .f64 cX, .float .f64 cT, .slice A' np c'] 39))
    have O := HO.out.alloc rfl #[.float .f64 cI, .float .f64 cO, .float .f64 cX, .float .f64 cT, .slice A' np c'] 39
    clear HO c0 f0 z0 y0 zz
    obtain ⟨c1, f1, z1, y1, ⟨n10, -⟩, c0, f0, z0, y0, -, zz⟩ := O.rules
    have HO := Lib.hid O; clear O
    refine (HC.out _ ((HP.out.below HO.out.below (Nat.le_refl _)).more HO.out.size)).mono ?_
    rintro en wn ⟨rfl, hbn⟩
    replace BG := Lib.hid (BG.out.trans (hbn.mono BG.out.size))
    have O := HO.out.keep hbn
    clear HO c1 f1 z1 y1 n10 c0 f0 z0 y0 zz
    obtain ⟨c1, f1, z1, y1, ⟨n10, -⟩, c0, f0, z0, y0, -, zz⟩ := O.rules
    have HO := Lib.hid O; clear O
    clear hbn
    go_wp2_with fail
    refine (HRC.out _ _ _ ((HP'.out.below BG.out (Nat.le_refl _)).more BG.out.size)).mono ?_
    rintro en wn ⟨rfl, hbn⟩
    replace BG := Lib.hid (BG.out.trans (hbn.mono BG.out.size))
    have O := HO.out.keep hbn
    clear HO c1 f1 z1 y1 n10 c0 f0 z0 y0 zz
    obtain ⟨c1, f1, z1, y1, ⟨n10, -⟩, c0, f0, z0, y0, -, zz⟩ := O.rules
    have HO := Lib.hid O; clear O
    clear hbn
    go_wp2_with fail
    refine (HD.out _ ((HA.out.below HO.out.below (Nat.le_refl _)).more HO.out.size) ((HB.out.below HO.out.below (Nat.le_refl _)).more HO.out.size) ((HP.out.below HO.out.below (Nat.le_refl _)).more HO.out.size)).mono ?_
    rintro en wn ⟨u, rfl, hu1, hu2, hbn⟩
    have HU1 := Lib.hid hu1
    have HU2 := Lib.hid hu2
    clear hu1 hu2
    replace BG := Lib.hid (BG.out.trans (hbn.mono BG.out.size))
    have O := HO.out.keep hbn
    clear HO c1 f1 z1 y1 n10 c0 f0 z0 y0 zz
    obtain ⟨c1, f1, z1, y1, ⟨n10, -⟩, c0, f0, z0, y0, -, zz⟩ := O.rules
    have HO := Lib.hid O; clear O
    clear hbn
    go_wp2_with fail
    refine (HM.out _ ((HA.out.below HO.out.below (Nat.le_refl _)).more HO.out.size) ((HB.out.below HO.out.below (Nat.le_refl _)).more HO.out.size) ((HP.out.below HO.out.below (Nat.le_refl _)).more HO.out.size)).mono ?_
    rintro en wn ⟨hbn, ⟨-, rfl⟩ | ⟨h0, -⟩⟩
    rotate_left
    · exact absurd h0 HE.out
    have hu : u = 0 := HU1.out HE.out
    subst hu
    replace BG := Lib.hid (BG.out.trans (hbn.mono BG.out.size))
    have O := HO.out.keep hbn
    clear HO c1 f1 z1 y1 n10 c0 f0 z0 y0 zz
    obtain ⟨c1, f1, z1, y1, ⟨n10, -⟩, c0, f0, z0, y0, -, zz⟩ := O.rules
    have HO := Lib.hid O; clear O
    clear hbn
    go_wp2_with fail
    refine (HWR.out _ _ _ ((HP'.out.below BG.out (Nat.le_refl _)).more BG.out.size)).mono ?_
    rintro en wn ⟨rfl, hbn⟩
    replace BG := Lib.hid (BG.out.trans (hbn.mono BG.out.size))
    have O := HO.out.keep hbn
    clear HO c1 f1 z1 y1 n10 c0 f0 z0 y0 zz
    obtain ⟨c1, f1, z1, y1, ⟨n10, -⟩, c0, f0, z0, y0, -, zz⟩ := O.rules
    have HO := Lib.hid O; clear O
    clear hbn
    go_wp2_with fail
    refine (awake_any _).mono ?_
    rintro en wn ⟨rfl, hbn⟩
    replace BG := Lib.hid (BG.out.trans (hbn.mono BG.out.size))
    have O := HO.out.keep hbn
    clear HO c1 f1 z1 y1 n10 c0 f0 z0 y0 zz
    obtain ⟨c1, f1, z1, y1, ⟨n10, -⟩, c0, f0, z0, y0, -, zz⟩ := O.rules
    have HO := Lib.hid O; clear O
    clear hbn
    go_wp2_with fail
    go_ret
    exact ⟨by first | rfl | decide | simp, HO.out.below⟩

theorem likeDistances_walk (cI cO cX cT np cp n m c d : Nat) (Ap A B : Option Addr) (p : Nat → Int × Int × Nat) (fa fb : Nat → Int) (w : World) (hA : NameAt w w.heap.size A n fa) (hB : NameAt w w.heap.size B m fb) (hp : PairsAt w w.heap.size Ap np p)
    (hn : n ≤ 1048576) (hm : m ≤ 1048576) (hnp : np ≤ 1048576) :
    Calls Try.prog 5 #[.agg #[.float .f64 cI, .float .f64 cO, .float .f64 cX, .float .f64 cT, .slice Ap np cp], .slice A n c, .slice B m d] w fun en w' => en = .returned (.bool true) ∧ Below w.heap.size w w' :=
  likeDist_core cI cO cX cT np cp n m c d _ Ap A B p fa fb (errN p np n m) _ (tabT cI cO cX cT p np fa fb) w hA hB hp hn hm hnp
    (fun w hp => given_any cI cO cX cT Ap np cp p w hnp hp)
    (fun w hp => check_any cI cO cX cT Ap np cp p w hnp hp)
    (fun A' c' w hp => rcheck_any cI cO cX cT A' np c' p w hnp hp)
    (fun w hA hB hp => dist_any cI cO cX cT n m c d np cp A B Ap p fa fb w hA hB hn hm hnp hp)
    (fun w hA hB hp => mtable_any cI cO cX cT n m c d np cp A B Ap p fa fb w hA hB hn hm hnp hp)
    (fun A' c' w hp => wrong_any cI cO cX cT n m c d np c' A B A' p w hn hm hnp hp)
    (fun he A' c' w hA hB hp => by
      obtain ⟨k1, k2, k3, -⟩ := err_ok he
      refine (rtable_any cI cO cX cT n m c d np c' A B A' p fa fb (tabT cI cO cX cT p np fa fb) w hA hB hn hm k1 hp k2 (tabT_is ..)).mono ?_
      rintro en w' ⟨g, cap, R, C, h1, h2, h3, h4⟩
      exact ⟨g, cap, R, C, _, h1, h2, h3, h4, (h3.lt g rfl).2⟩)
    (tabT_is cI cO cX cT p np fa fb).lt

theorem likeDistances_own : ownKnob Try.prog.godebug = none := by kernel_rfl
theorem likeDistances_laid : laidOutB Try.prog = true := by kernel_rfl
theorem likeDistances_types : ∀ t ∈ ([26, 22, 22] : List TypeId), Try.prog.readableRec t = true ∧ t < Try.prog.types.size := by
  simp only [List.mem_cons, List.not_mem_nil, or_false, forall_eq_or_imp, forall_eq]
  exact ⟨⟨by kernel_rfl, of_decide_eq_true (by kernel_rfl)⟩, ⟨by kernel_rfl, of_decide_eq_true (by kernel_rfl)⟩, ⟨by kernel_rfl, of_decide_eq_true (by kernel_rfl)⟩⟩
set_option maxRecDepth 100000 in
theorem likeDistances_lifted (os : Os) (started : os.Started) (H : Type) (enc : TypeId × Value → H) (F : Stop.Interp) :
    ReturnsInHanded {} Try.checked os 5 .any ((Rows.OpenSpec.upto Rows.likeDistancesSpec).pre6 enc Try.prog Try.f5 Rows.likeDistancesUptoRow.domain false) (((Rows.OpenSpec.upto Rows.likeDistancesSpec).at F).post enc Try.prog Try.f5 false true false false) := by
  refine returnsInHanded_of_cond (C := Try.checked) (s := Rows.OpenSpec.upto Rows.likeDistancesSpec) (k := Rows.uptoSmall) rfl likeDistances_own started (by kernel_rfl) Try.func5
    (OpenSpec.witness (enc := enc) (C := Try.checked) (s := Rows.OpenSpec.upto Rows.likeDistancesSpec) (k := Rows.uptoSmall) rfl false ⟨#[], #[.agg #[.float .f64 0, .float .f64 0, .float .f64 0, .float .f64 0, .slice none 0 0], .slice none 0 0, .slice none 0 0], []⟩ 8 (by kernel_rfl) (by kernel_rfl) (by kernel_rfl) (x := ([.agg [.lit (.float .f64 0), .lit (.float .f64 0), .lit (.float .f64 0), .lit (.float .f64 0), .nil], .nil, .nil], [], [])) (by kernel_rfl) rfl (by kernel_rfl)) ?_
  intro W base args ds gs before hval0 hW _ hk _
  have hval : ∀ (j : Nat) t v, Try.f5.params[j]? = some t → args[j]? = some v → Value.okWide Try.prog W .any base t v := hval0
  have hW' := hW
  obtain ⟨p, q, hA0, hV, rfl, hfz, hnd⟩ := hW
  have hA : DataW.TrodAll enc Try.prog W 0 (fun _ => true) true Try.f5.params.toList args.toList ds p := hA0
  obtain ⟨rfl, rfl⟩ := trodVars_none hV
  have hpost : ∀ W', Below W.heap.size W W' → Rows.likeDistancesSpec.post enc Try.prog Try.f5 false true false false W args (.bool true) W' := fun W' hb => by
    have hlen : ds.length = 3 := by have hh := hA; rw [Try.params5] at hh; obtain ⟨_, _, d0, ds0, _, _, _, rfl, _, _, hh⟩ := trodAll_cons hh; obtain ⟨_, _, d1, ds1, _, _, _, rfl, _, _, hh⟩ := trodAll_cons hh; obtain ⟨_, _, d2, ds2, _, _, _, rfl, _, _, hh⟩ := trodAll_cons hh; obtain ⟨_, rfl, _⟩ := trodAll_nil hh; simp
    obtain ⟨e0, e1, e2, rfl⟩ : ∃ e0 e1 e2, ds = [e0, e1, e2] := by match ds, hlen with | [e0, e1, e2], _ => exact ⟨e0, e1, e2, rfl⟩
    exact law_post likeDistances_laid rfl hW' (by rw [Try.params5]; exact likeDistances_types) (tb := 4) (by kernel_rfl) Try.underlying4 rfl rfl rfl hb
  rw [Try.params5] at hA hval
  obtain ⟨v0, vs0, d0, ds0, p0, q0, hargs, rfl, rfl, h0, r0⟩ := trodAll_cons hA
  obtain ⟨v1, vs1, d1, ds1, p1, q1, rfl, rfl, rfl, h1, r1⟩ := trodAll_cons r0
  obtain ⟨v2, vs2, d2, ds2, p2, q2, rfl, rfl, rfl, h2, r2⟩ := trodAll_cons r1
  obtain ⟨rfl, rfl, rfl⟩ := trodAll_nil r2
  obtain rfl : args = #[v0, v1, v2] := by cases args; simp_all
  obtain ⟨cI, cO, cX, cT, Ap, np, cp, p, rfl, bP, nP, lI, lO, lX, lT⟩ := open_costs Try.underlying26 (by kernel_rfl) (by kernel_rfl) Try.underlying23 Try.underlying23 Try.underlying23 Try.underlying23 Try.underlying24 Try.underlying35 (by kernel_rfl) (by kernel_rfl) Try.underlying21 Try.underlying21 Try.underlying33 (hval 0 26 v0 rfl rfl) h0
  obtain ⟨A, n, c, fa, rfl, bA, nA⟩ := open_name Try.underlying22 Try.underlying21 (by kernel_rfl) (hval 1 22 v1 rfl rfl) h1
  obtain ⟨B, m, d, fb, rfl, bB, nB⟩ := open_name Try.underlying22 Try.underlying21 (by kernel_rfl) (hval 2 22 v2 rfl rfl) h2
  have hbk := upto_bound hk
  simp only [Rows.uptoBulkAll, List.cons_append, List.nil_append, List.append_nil] at hbk
  refine (likeDistances_walk cI cO cX cT np cp n m c d Ap A B p fa fb W nA nB nP (by omega) (by omega) (by omega)).mono fun e W' ⟨he, hg⟩ => ?_
  subst he
  exact ⟨_, rfl, hpost _ hg⟩

theorem likeDistances_holds : Rows.LikeDistancesUptoSaid :=
  OpenClaim.holds_of_cond 5 Try.f5 rfl rfl rfl rfl rfl rfl rfl ⟨rfl, rfl, rfl, rfl, rfl⟩ rfl rfl rfl rfl rfl (by kernel_rfl) Try.func5 (by kernel_rfl)
    (of_decide_eq_true (by kernel_rfl)) (by unfold Func.isWrapper; first | (rw [if_pos (by decide +kernel)]; kernel_rfl) | (rw [if_neg (by decide +kernel)]; exact ⟨rfl, rfl⟩))
    (fun os started H enc _ F => likeDistances_lifted os started H enc F)
#print axioms likeDistances_holds

end Go.Proofs.Ytkhdemaanakbeaa
