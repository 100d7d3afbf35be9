/- Jaro's measure: the document. Condition: names of at most 2^45 code points. · Winkler's measure: here and in the document. Condition: names of at most 2^45 code points. -/
import Derived.Test.YtkhdemaanakbeaaJc
namespace Go.Proofs.Ytkhdemaanakbeaa
open Go.RowKit Go.Pst
set_option maxRecDepth 20000
set_option linter.unusedSimpArgs false
set_option linter.unusedVariables false
attribute [local go_sem] run_fsub run_fquo run_fadd

theorem rowIs_of_own {w : World} {base g cap n : Nat} (h : w.ownsRow base 4 1 (.slice (some ⟨g, 0, none⟩) n cap) n (List.replicate n (.bool false))) :
    ∃ E : Nat → Value, n ≤ cap ∧ w.rowIs g 4 cap (fun q => if q < n then .bool false else E q) := by
  rcases h.2 with ⟨h1, _⟩ | ⟨g', cap', cur, h1, h2, h3, h4, h5, h6, h7⟩
  · cases h1
  · injection h1 with h1 _ hc
    injection h1 with h1
    injection h1 with h1
    subst h1
    subst hc
    refine ⟨fun q => cur.getD q undef, h4, cur, h3, by omega, fun q hq => ?_⟩
    show cur[q]? = some (if q < n then Value.bool false else cur.getD q undef)
    by_cases e : q < n
    · rw [if_pos e]
      have hu : (List.replicate n (Value.bool false))[q]? = some (.bool false) := by simp [e]
      rw [← h7, Nat.mul_one, List.getElem?_take_of_lt e] at hu
      simpa using hu
    · rw [if_neg e]
      simp [Array.getElem?_eq_getElem (show q < cur.size by omega), Array.getD_eq_getD_getElem?]

set_option maxHeartbeats 6000000 in
theorem rjaro_core (A B : Option Addr) (n m c d v : Nat) (fa fb : Nat → Int) (w : World) (hA : NameAt w w.heap.size A n fa) (hB : NameAt w w.heap.size B m fb) (hn0 : n ≠ 0) (hm0 : m ≠ 0)
    (hn : n ≤ 35184372088832) (hm : m ≤ 35184372088832) (hv : jaroV n m fa fb = v) :
    Calls Try.prog 45 #[.slice A n c, .slice B m d] w (FlLike v w) := by
  obtain ⟨j0, hj0, hy0, hy1, hy2⟩ := info_parts infoRune
  have J0 := Lib.hid hj0; have J1 := Lib.hid hy0; have J2 := Lib.hid hy1; have J3 := Lib.hid hy2
  obtain ⟨k0, hk0, hz0, hz1, hz2⟩ := info_parts infoBool
  have K0 := Lib.hid hk0; have K1 := Lib.hid hz0; have K2 := Lib.hid hz1; have K3 := Lib.hid hz2
  clear hj0 hy0 hy1 hy2 hk0 hz0 hz1 hz2
  have HV := Lib.hid hv
  have HA := Lib.hid hA; have HB := Lib.hid hB
  clear hv hA hB
  obtain ⟨W, hW⟩ : ∃ W, W = jW n m := ⟨_, rfl⟩
  have hWl : W ≤ 35184372088832 := by rw [hW]; unfold jW; omega
  have HW := Lib.hid hW
  clear hW
  have e1 : ((n : Int) == 0) = false := by simp; omega
  have e2 : ((m : Int) == 0) = false := by simp; omega
  go_enter Try.func45, Try.ntmps45
  obtain ⟨M, hM⟩ : ∃ M, M = max n m := ⟨_, rfl⟩
  have HMX := Lib.hid hM
  have hMl : 1 ≤ M := by omega
  have hMu : M ≤ 35184372088832 := by omega
  clear hM
  go_upto_if 41 with fail
  go_cut [5] (fun s wx => s = .int .i64 (M : Int) ∧ wx = w)
  case first =>
    have hw := HMX.out
    rcases Nat.lt_or_ge n m with hnm | hnm
    · have g1 : (n : Int) < (m : Int) := by omega
      go_wp2_with fail
      all_goals
        go_meet
        case rel => exact ⟨congrArg (Value.int .i64) (by omega), rfl⟩
    · have g1 : ¬ (n : Int) < (m : Int) := by omega
      have g2 : (m : Int) ≤ (n : Int) := by omega
      go_wp2_with fail
      all_goals
        go_meet
        case rel => exact ⟨congrArg (Value.int .i64) (by omega), rfl⟩
  case rest =>
   obtain ⟨rfl, hwc⟩ := hcut
   obtain rfl := hwc.symm
   go_upto_if 48 with fail
   go_cut [5] (fun s wx => s = .int .i64 (W : Int) ∧ wx = w)
   case first =>
    have hw := HW.out
    have hm2 := HMX.out
    unfold jW at hw
    rw [← hm2] at hw
    clear hm2
    go_wp2_with fail
    all_goals
      go_meet
      case rel => exact ⟨congrArg (Value.int .i64) (by omega), rfl⟩
   case rest =>
    obtain ⟨rfl, hwc⟩ := hcut
    obtain rfl := hwc.symm
    go_wp2_with fail
    go_loopw [6, 52] (fun dv t wr => ∃ (k : Nat) (v : Value), v = dv ∧ t = .int .i64 (k : Int) ∧ k ≤ m ∧ wr.ownsRow w.heap.size 4 1 v k (List.replicate k (.bool false)) ∧ Below w.heap.size w wr) (fun _ t _ => m - (intOf t).toNat)
    case atStart => exact ⟨0, _, rfl, rfl, by omega, World.ownsRow_made _ #[] 0 (Nat.le_refl _) (by simp [maxLen]) rfl, (Below.refl _ _).alloc (Nat.le_refl _) _⟩
    case round =>
      obtain ⟨k, v6, rfl, rfl, hk, hown, hbw⟩ := hrel
      have OT := Lib.hid hown; have BW := Lib.hid hbw
      have hsz := hbw.size
      clear hown hbw
      by_cases hkm : k < m
      · have h3 : (k : Int) < (m : Int) := by omega
        go_wp2_with (at_builtin
                     refine wpList_append_lies _ rfl _ _ _ rfl w.heap.size 4 k0 _ 1 1 Try.underlying109 K0.out K1.out K2.out K3.out rfl (by omega) v6 k (List.replicate k (.bool false)) rfl (OT.out.alloc _) ⟨wr.heap.size, 0, none⟩ 1 1 [.bool false] rfl rfl (World.news_of_block (heap_alloc_new _ _)) (by simp [Value.oneCell']) (by omega) (by unfold maxLen; omega) (by omega) (by simp; omega) (wr.heap.size + 1) (by simp) ?_
                     intro g' cap' w7 hown7 hgrow7 hat7 hlt7
                     have O7 := Lib.hid hown7; have G7 := Lib.hid hgrow7
                     clear hown7 hgrow7 hat7)
        have hol := OT.out.lt
        have BW2 := Lib.hid ((BW.out.alloc hsz (.cells #[.bool false] 4)).grown G7.out (by simp; omega) (fun q e => (hol q e).1))
        rw [← List.replicate_succ'] at O7
        go_wp2_with fail
        go_roundw
        case rel => exact ⟨k + 1, _, rfl, by go_num, by omega, O7.out, BW2.out⟩
        case measure => (simp [intOf] <;> omega)
      · obtain rfl : k = m := by omega
        have h3 : ¬ (k : Int) < (k : Int) := by omega
        obtain ⟨g, cap, rfl, hg1, hg2⟩ := OT.out.form (by omega)
        obtain ⟨E, hcap, hrow0⟩ := rowIs_of_own OT.out
        have RW0 : Hid (wr.rowIs g 4 cap (fun q => if q < k then .bool (tkN k W fa fb 0 q) else E q)) := Lib.hid hrow0
        obtain ⟨w2, rfl⟩ : ∃ w2 : World, w2 = wr := ⟨_, rfl⟩
        have hcap2 : (k : Int) ≤ (cap : Int) := by omega
        clear hrow0 OT
        obtain ⟨m, rfl⟩ : ∃ m : Nat, m = k := ⟨_, rfl⟩
        go_wp2_with fail
        go_loopw [7, 8] (fun lx t wq => ∃ (i : Nat) (vx : Value), vx = lx ∧ t = .int .i64 (i : Int) ∧ i ≤ n ∧ wq.rowIs g 4 cap (fun q => if q < m then .bool (tkN m W fa fb i q) else E q) ∧ wq.ownsRow w2.heap.size 21 1 vx (lfN m W fa fb i).length (runes (lfN m W fa fb i)) ∧ Below w.heap.size w wq ∧ w2.heap.size ≤ wq.heap.size) (fun _ t _ => n - (intOf t).toNat)
        case atStart => exact ⟨0, _, rfl, rfl, by omega, RW0.out.alloc _, World.ownsRow_made _ #[] 0 (Nat.le_refl _) (by simp [maxLen]) rfl, BW.out.alloc hsz _, by simp⟩
        case round =>
          clear BW RW0
          obtain ⟨i, vx, rfl, rfl, hi, hrow, hown, hbw, hs2⟩ := hrel
          have RW := Lib.hid hrow; have OX := Lib.hid hown; have BW := Lib.hid hbw
          have hsz3 := hbw.size
          have hlt := hrow.lt
          have hll := lfN_len m W fa fb i
          clear hrow hown hbw
          by_cases hin : i < n
          · have h4 : (i : Int) < (n : Int) := by omega
            have h00 : (0 : Int) ≤ (i : Int) := by omega
            obtain ⟨ga, oa, rfl, hga, hca⟩ := (HA.out.below BW.out (Nat.le_refl _)) (by omega)
            have qa := hca i hin
            have qga : ga < wr.heap.size := by omega
            clear hca
            obtain ⟨wo, rfl⟩ : ∃ wo : World, wo = wr := ⟨_, rfl⟩
            go_wp2_with fail
            go_loopw [7, 9] (fun lx s wq => ∃ j : Nat, vx = lx ∧ s = .int .i64 (j : Int) ∧ j ≤ m ∧ (∀ q, q < j → jP W fa fb (tkN m W fa fb i) i q = false) ∧ Below wo.heap.size wo wq) (fun _ s _ => m - (intOf s).toNat)
            case atStart => exact ⟨0, rfl, rfl, by omega, fun q hq => by omega, Below.refl _ _⟩
            case round =>
              obtain ⟨j, rfl, rfl, hjb, hno, hbq⟩ := hrel
              have NO := Lib.hid hno; have BQ := Lib.hid hbq
              have hszq := hbq.size
              clear hno hbq
              by_cases hjm : j < m
              · have k1 : (j : Int) < (m : Int) := by omega
                have k0' : (0 : Int) ≤ (j : Int) := by omega
                have k2' : (j : Int) < (cap : Int) := by omega
                have qa2 := (BQ.out.cell (p := ⟨ga, oa + i, none⟩) qga).trans qa
                have qga2 : ga < wr.heap.size := by omega
                have qg2 : g < wr.heap.size := by omega
                have qt : wr.cell? ⟨g, j, none⟩ = some (.bool (tkN m W fa fb i j)) := (BQ.out.cell (p := ⟨g, j, none⟩) hlt).trans ((RW.out.cell (show j < cap by omega)).trans (by rw [if_pos hjm]))
                obtain ⟨gb, ob, rfl, hgb, hcb⟩ := (HB.out.below BW.out (Nat.le_refl _)) (by omega)
                have qb := (BQ.out.cell (p := ⟨gb, ob + j, none⟩) (show gb < wo.heap.size by omega)).trans (hcb j hjm)
                have qgb : gb < wr.heap.size := by omega
                clear hcb qa
                cases htk : tkN m W fa fb i j
                · rw [htk] at qt
                  cases hfe : (fb j == fa i)
                  · have NJ : Hid (jP W fa fb (tkN m W fa fb i) i j = false) := Lib.hid (by unfold jP; rw [hfe]; simp)
                    clear htk
                    have NO2 : Hid (∀ q, q < j + 1 → jP W fa fb (tkN m W fa fb i) i q = false) := Lib.hid (fun q hq => by
                      by_cases e : q = j
                      · rw [e]; exact NJ.out
                      · exact NO.out q (by omega))
                    go_wp2_with fail
                    refine Reg.wp_region_rd (by kernel_rfl) (by kernel_rfl) (fun _ => ?_)
                    repeat (refine Reg.rd_op rfl ?_; apply Exists.intro; apply And.intro; (intro w' hb; have hc := Reg.rd_cells hb; clear hb; go_simp; (try go_bits); first | done | (with_reducible exact rfl)); (intro _ a' ha'; simp only [Act.put, List.setIfInBounds_toArray, List.set_cons_zero, List.set_cons_succ] at ha'; subst ha'))
                    repeat (refine Reg.rd_skip rfl ?_; intro a' ha'; simp only [Act.put, List.setIfInBounds_toArray, List.set_cons_zero, List.set_cons_succ] at ha'; subst ha')
                    repeat (refine Reg.rd_op rfl ?_; apply Exists.intro; apply And.intro; (intro w' hb; have hc := Reg.rd_cells hb; clear hb; go_simp; (try go_bits); first | done | (with_reducible exact rfl)); (intro _ a' ha'; simp only [Act.put, List.setIfInBounds_toArray, List.set_cons_zero, List.set_cons_succ] at ha'; subst ha'))
                    repeat (refine Reg.rd_skip rfl ?_; intro a' ha'; simp only [Act.put, List.setIfInBounds_toArray, List.set_cons_zero, List.set_cons_succ] at ha'; subst ha')
                    repeat (refine Reg.rd_op rfl ?_; apply Exists.intro; apply And.intro; (intro w' hb; have hc := Reg.rd_cells hb; clear hb; go_simp; (try go_bits); first | done | (with_reducible exact rfl)); (intro _ a' ha'; simp only [Act.put, List.setIfInBounds_toArray, List.set_cons_zero, List.set_cons_succ] at ha'; subst ha'))
                    repeat (refine Reg.rd_skip rfl ?_; intro a' ha'; simp only [Act.put, List.setIfInBounds_toArray, List.set_cons_zero, List.set_cons_succ] at ha'; subst ha')
                    repeat (refine Reg.rd_op rfl ?_; apply Exists.intro; apply And.intro; (intro w' hb; have hc := Reg.rd_cells hb; clear hb; go_simp; (try go_bits); first | done | (with_reducible exact rfl)); (intro _ a' ha'; simp only [Act.put, List.setIfInBounds_toArray, List.set_cons_zero, List.set_cons_succ] at ha'; subst ha'))
                    refine Reg.rd_end (fun wz hb => ?_)
                    have BQ2 := Lib.hid (BQ.out.trans (hb.mono hszq))
                    clear hb
                    go_wp2_with fail
                    go_roundw
                    case rel => exact ⟨j + 1, rfl, by go_num, by omega, NO2.out, BQ2.out⟩
                    case measure => (simp [intOf] <;> omega)
                  · by_cases hd1 : j ≤ i + W
                    · have g1 : (j : Int) - (i : Int) ≤ (W : Int) := by omega
                      by_cases hd2 : i ≤ j + W
                      · have g2 : (i : Int) - (j : Int) ≤ (W : Int) := by omega
                        have FS : Hid (first (jP W fa fb (tkN m W fa fb i) i) m = some j) := Lib.hid (first_some (by
                            unfold jP; rw [htk, hfe, decide_eq_true hd1, decide_eq_true hd2]; rfl) NO.out hjm)
                        clear htk
                        go_wp2_with fail
                        refine Reg.wp_region_rd (by kernel_rfl) (by kernel_rfl) (fun _ => ?_)
                        repeat (refine Reg.rd_op rfl ?_; apply Exists.intro; apply And.intro; (intro w' hb; have hc := Reg.rd_cells hb; clear hb; go_simp; (try go_bits); first | done | (with_reducible exact rfl)); (intro _ a' ha'; simp only [Act.put, List.setIfInBounds_toArray, List.set_cons_zero, List.set_cons_succ] at ha'; subst ha'))
                        refine Reg.rd_end (fun wz hb => ?_)
                        have BQ2 := Lib.hid (BQ.out.trans (hb.mono hszq))
                        have qa3 := (hb.cell (p := ⟨ga, oa + i, none⟩) qga2).trans qa2
                        have hwz := hb.size
                        clear hb qa2 qb qt
                        have RWz := Lib.hid (RW.out.of_block (BQ2.out.block g hlt))
                        have fr := RWz.out.frozen j
                        have qt3 := RWz.out.cell (show j < cap by omega)
                        rw [if_pos hjm] at qt3
                        have qgz : g < wz.heap.size := by omega
                        have qgaz : ga < wz.heap.size := by omega
                        have hgne : g < w2.heap.size := hg2
                        have OXz := Lib.hid (own_below OX.out BQ2.out)
                        have RW1 := Lib.hid (RWz.out.set j (.bool true))
                        have OX1 := Lib.hid (ownsRow_setCell_below OXz.out (a := ⟨g, j, none⟩) hgne (.bool true))
                        have BW1 := Lib.hid ((BW.out.trans (BQ2.out.mono hsz3)).setCell (p := ⟨g, j, none⟩) hg1 (.bool true))
                        have hol := OXz.out.lt
                        have qa4 : (wz.setCell ⟨g, j, none⟩ (.bool true)).cell? ⟨ga, oa + i, none⟩ = some (.int .i32 (fa i)) := by
                          rw [World.cell?_setCell_far _ _ _ _ (show g ≠ ga by omega)]; exact qa3
                        go_wp2_with (at_builtin
                                     refine wpList_append_lies _ rfl _ _ _ rfl w2.heap.size 21 j0 _ 1 4 Try.underlying22 J0.out J1.out J2.out J3.out rfl (by omega) vx (lfN m W fa fb i).length (runes (lfN m W fa fb i)) rfl (OX1.out.alloc _) ⟨wz.heap.size, 0, none⟩ 1 1 [.int .i32 (fa i)] rfl rfl (World.news_of_block (cs := #[.int .i32 (fa i)]) (t := 21) (fr := (0, 0)) (by simpa using heap_alloc_new (wz.setCell ⟨g, j, none⟩ (.bool true)) (.cells #[.int .i32 (fa i)] 21))) (by simp [Value.oneCell']) (by omega) (by unfold maxLen; omega) (by omega) (by simp; omega) (wz.heap.size + 1) (by simp) ?_
                                     intro g' cap' w7 hown7 hgrow7 hat7 hlt7
                                     have O7 := Lib.hid hown7; have G7 := Lib.hid hgrow7
                                     clear hown7 hgrow7 hat7)
                        have RW2 : Hid (w7.rowIs g 4 cap (fun q => if q < m then .bool (tkN m W fa fb (i + 1) q) else E q)) := Lib.hid (by
                          refine ((RW1.out.alloc _).of_block (G7.out.block g (by simp; omega) (fun e => by have := (hol _ e.symm).1; omega))).congr fun q hq => ?_
                          rw [tk_some FS.out]
                          by_cases e : q = j
                          · rw [if_pos e, e, if_pos hjm]; simp
                          · rw [if_neg e]; have : (q == j) = false := by simpa using e
                            simp only [this, Bool.false_or])
                        have OX2 : Hid (w7.ownsRow w2.heap.size 21 1 (.slice (some ⟨g', 0, none⟩) ((lfN m W fa fb i).length + 1) cap') (lfN m W fa fb (i + 1)).length (runes (lfN m W fa fb (i + 1)))) := Lib.hid (by
                          rw [lf_some FS.out, List.length_append, runes_app]; exact O7.out)
                        have BW2 := Lib.hid ((BW1.out.alloc (by simp; omega) (.cells #[.int .i32 (fa i)] 21)).grown G7.out (by simp; omega) (fun q e => by have := (hol q e).1; omega))
                        have SZ2 : w2.heap.size ≤ w7.heap.size := by have := G7.out.size; simp at this; omega
                        go_wp2_with fail
                        go_roundw
                        case rel => exact ⟨i + 1, _, rfl, by go_num, by omega, RW2.out, OX2.out, BW2.out, SZ2⟩
                        case measure => (simp [intOf] <;> omega)
                      · have g2 : ¬ (i : Int) - (j : Int) ≤ (W : Int) := by omega
                        have NJ : Hid (jP W fa fb (tkN m W fa fb i) i j = false) := Lib.hid (by unfold jP; rw [decide_eq_false hd2]; simp)
                        clear htk
                        have NO2 : Hid (∀ q, q < j + 1 → jP W fa fb (tkN m W fa fb i) i q = false) := Lib.hid (fun q hq => by
                          by_cases e : q = j
                          · rw [e]; exact NJ.out
                          · exact NO.out q (by omega))
                        go_wp2_with fail
                        refine Reg.wp_region_rd (by kernel_rfl) (by kernel_rfl) (fun _ => ?_)
                        repeat (refine Reg.rd_op rfl ?_; apply Exists.intro; apply And.intro; (intro w' hb; have hc := Reg.rd_cells hb; clear hb; go_simp; (try go_bits); first | done | (with_reducible exact rfl)); (intro _ a' ha'; simp only [Act.put, List.setIfInBounds_toArray, List.set_cons_zero, List.set_cons_succ] at ha'; subst ha'))
                        repeat (refine Reg.rd_skip rfl ?_; intro a' ha'; simp only [Act.put, List.setIfInBounds_toArray, List.set_cons_zero, List.set_cons_succ] at ha'; subst ha')
                        repeat (refine Reg.rd_op rfl ?_; apply Exists.intro; apply And.intro; (intro w' hb; have hc := Reg.rd_cells hb; clear hb; go_simp; (try go_bits); first | done | (with_reducible exact rfl)); (intro _ a' ha'; simp only [Act.put, List.setIfInBounds_toArray, List.set_cons_zero, List.set_cons_succ] at ha'; subst ha'))
                        repeat (refine Reg.rd_skip rfl ?_; intro a' ha'; simp only [Act.put, List.setIfInBounds_toArray, List.set_cons_zero, List.set_cons_succ] at ha'; subst ha')
                        repeat (refine Reg.rd_op rfl ?_; apply Exists.intro; apply And.intro; (intro w' hb; have hc := Reg.rd_cells hb; clear hb; go_simp; (try go_bits); first | done | (with_reducible exact rfl)); (intro _ a' ha'; simp only [Act.put, List.setIfInBounds_toArray, List.set_cons_zero, List.set_cons_succ] at ha'; subst ha'))
                        repeat (refine Reg.rd_skip rfl ?_; intro a' ha'; simp only [Act.put, List.setIfInBounds_toArray, List.set_cons_zero, List.set_cons_succ] at ha'; subst ha')
                        repeat (refine Reg.rd_op rfl ?_; apply Exists.intro; apply And.intro; (intro w' hb; have hc := Reg.rd_cells hb; clear hb; go_simp; (try go_bits); first | done | (with_reducible exact rfl)); (intro _ a' ha'; simp only [Act.put, List.setIfInBounds_toArray, List.set_cons_zero, List.set_cons_succ] at ha'; subst ha'))
                        refine Reg.rd_end (fun wz hb => ?_)
                        have BQ2 := Lib.hid (BQ.out.trans (hb.mono hszq))
                        clear hb
                        go_wp2_with fail
                        go_roundw
                        case rel => exact ⟨j + 1, rfl, by go_num, by omega, NO2.out, BQ2.out⟩
                        case measure => (simp [intOf] <;> omega)
                    · have g1 : decide ((j : Int) - (i : Int) ≤ (W : Int)) = false := decide_eq_false (by omega)
                      have NJ : Hid (jP W fa fb (tkN m W fa fb i) i j = false) := Lib.hid (by unfold jP; rw [decide_eq_false hd1]; simp)
                      clear htk
                      have NO2 : Hid (∀ q, q < j + 1 → jP W fa fb (tkN m W fa fb i) i q = false) := Lib.hid (fun q hq => by
                        by_cases e : q = j
                        · rw [e]; exact NJ.out
                        · exact NO.out q (by omega))
                      go_wp2_with fail
                      refine Reg.wp_region_rd (by kernel_rfl) (by kernel_rfl) (fun _ => ?_)
                      repeat (refine Reg.rd_op rfl ?_; apply Exists.intro; apply And.intro; (intro w' hb; have hc := Reg.rd_cells hb; clear hb; go_simp; (try go_bits); first | done | (with_reducible exact rfl)); (intro _ a' ha'; simp only [Act.put, List.setIfInBounds_toArray, List.set_cons_zero, List.set_cons_succ] at ha'; subst ha'))
                      repeat (refine Reg.rd_skip rfl ?_; intro a' ha'; simp only [Act.put, List.setIfInBounds_toArray, List.set_cons_zero, List.set_cons_succ] at ha'; subst ha')
                      repeat (refine Reg.rd_op rfl ?_; apply Exists.intro; apply And.intro; (intro w' hb; have hc := Reg.rd_cells hb; clear hb; go_simp; (try go_bits); first | done | (with_reducible exact rfl)); (intro _ a' ha'; simp only [Act.put, List.setIfInBounds_toArray, List.set_cons_zero, List.set_cons_succ] at ha'; subst ha'))
                      repeat (refine Reg.rd_skip rfl ?_; intro a' ha'; simp only [Act.put, List.setIfInBounds_toArray, List.set_cons_zero, List.set_cons_succ] at ha'; subst ha')
                      repeat (refine Reg.rd_op rfl ?_; apply Exists.intro; apply And.intro; (intro w' hb; have hc := Reg.rd_cells hb; clear hb; go_simp; (try go_bits); first | done | (with_reducible exact rfl)); (intro _ a' ha'; simp only [Act.put, List.setIfInBounds_toArray, List.set_cons_zero, List.set_cons_succ] at ha'; subst ha'))
                      repeat (refine Reg.rd_skip rfl ?_; intro a' ha'; simp only [Act.put, List.setIfInBounds_toArray, List.set_cons_zero, List.set_cons_succ] at ha'; subst ha')
                      repeat (refine Reg.rd_op rfl ?_; apply Exists.intro; apply And.intro; (intro w' hb; have hc := Reg.rd_cells hb; clear hb; go_simp; (try go_bits); first | done | (with_reducible exact rfl)); (intro _ a' ha'; simp only [Act.put, List.setIfInBounds_toArray, List.set_cons_zero, List.set_cons_succ] at ha'; subst ha'))
                      refine Reg.rd_end (fun wz hb => ?_)
                      have BQ2 := Lib.hid (BQ.out.trans (hb.mono hszq))
                      clear hb
                      go_wp2_with fail
                      go_roundw
                      case rel => exact ⟨j + 1, rfl, by go_num, by omega, NO2.out, BQ2.out⟩
                      case measure => (simp [intOf] <;> omega)
                · rw [htk] at qt
                  have NJ : Hid (jP W fa fb (tkN m W fa fb i) i j = false) := Lib.hid (by unfold jP; rw [htk]; simp)
                  clear htk
                  have NO2 : Hid (∀ q, q < j + 1 → jP W fa fb (tkN m W fa fb i) i q = false) := Lib.hid (fun q hq => by
                    by_cases e : q = j
                    · rw [e]; exact NJ.out
                    · exact NO.out q (by omega))
                  go_wp2_with fail
                  refine Reg.wp_region_rd (by kernel_rfl) (by kernel_rfl) (fun _ => ?_)
                  repeat (refine Reg.rd_op rfl ?_; apply Exists.intro; apply And.intro; (intro w' hb; have hc := Reg.rd_cells hb; clear hb; go_simp; (try go_bits); first | done | (with_reducible exact rfl)); (intro _ a' ha'; simp only [Act.put, List.setIfInBounds_toArray, List.set_cons_zero, List.set_cons_succ] at ha'; subst ha'))
                  repeat (refine Reg.rd_skip rfl ?_; intro a' ha'; simp only [Act.put, List.setIfInBounds_toArray, List.set_cons_zero, List.set_cons_succ] at ha'; subst ha')
                  repeat (refine Reg.rd_op rfl ?_; apply Exists.intro; apply And.intro; (intro w' hb; have hc := Reg.rd_cells hb; clear hb; go_simp; (try go_bits); first | done | (with_reducible exact rfl)); (intro _ a' ha'; simp only [Act.put, List.setIfInBounds_toArray, List.set_cons_zero, List.set_cons_succ] at ha'; subst ha'))
                  repeat (refine Reg.rd_skip rfl ?_; intro a' ha'; simp only [Act.put, List.setIfInBounds_toArray, List.set_cons_zero, List.set_cons_succ] at ha'; subst ha')
                  repeat (refine Reg.rd_op rfl ?_; apply Exists.intro; apply And.intro; (intro w' hb; have hc := Reg.rd_cells hb; clear hb; go_simp; (try go_bits); first | done | (with_reducible exact rfl)); (intro _ a' ha'; simp only [Act.put, List.setIfInBounds_toArray, List.set_cons_zero, List.set_cons_succ] at ha'; subst ha'))
                  repeat (refine Reg.rd_skip rfl ?_; intro a' ha'; simp only [Act.put, List.setIfInBounds_toArray, List.set_cons_zero, List.set_cons_succ] at ha'; subst ha')
                  repeat (refine Reg.rd_op rfl ?_; apply Exists.intro; apply And.intro; (intro w' hb; have hc := Reg.rd_cells hb; clear hb; go_simp; (try go_bits); first | done | (with_reducible exact rfl)); (intro _ a' ha'; simp only [Act.put, List.setIfInBounds_toArray, List.set_cons_zero, List.set_cons_succ] at ha'; subst ha'))
                  refine Reg.rd_end (fun wz hb => ?_)
                  have BQ2 := Lib.hid (BQ.out.trans (hb.mono hszq))
                  clear hb
                  go_wp2_with fail
                  go_roundw
                  case rel => exact ⟨j + 1, rfl, by go_num, by omega, NO2.out, BQ2.out⟩
                  case measure => (simp [intOf] <;> omega)
              · have k1 : ¬ (j : Int) < (m : Int) := by omega
                have FN : Hid (first (jP W fa fb (tkN m W fa fb i) i) m = none) := Lib.hid (first_none fun q hq => NO.out q (by omega))
                have RW2 : Hid (wr.rowIs g 4 cap (fun q => if q < m then .bool (tkN m W fa fb (i + 1) q) else E q)) := Lib.hid (by rw [tk_none FN.out]; exact RW.out.of_block (BQ.out.block g hlt))
                have OX2 : Hid (wr.ownsRow w2.heap.size 21 1 vx (lfN m W fa fb (i + 1)).length (runes (lfN m W fa fb (i + 1)))) := Lib.hid (by rw [lf_none FN.out]; exact own_below OX.out BQ.out)
                have BW2 := Lib.hid (BW.out.trans (BQ.out.mono hsz3))
                go_wp2_with fail
                go_roundw
                case rel => exact ⟨i + 1, vx, rfl, by go_num, by omega, RW2.out, OX2.out, BW2.out, by omega⟩
                case measure => (simp [intOf] <;> omega)
          · obtain rfl : i = n := by omega
            have h5 : ¬ (i : Int) < (i : Int) := by omega
            obtain ⟨n, rfl⟩ : ∃ n : Nat, n = i := ⟨_, rfl⟩
            obtain ⟨tk, htk⟩ : ∃ tk, tk = tkN m W fa fb n := ⟨_, rfl⟩
            rw [← htk] at RW
            have HTK := Lib.hid htk
            clear htk
            obtain ⟨wo, rfl⟩ : ∃ wo : World, wo = wr := ⟨_, rfl⟩
            have hgo : g < wo.heap.size := by omega
            go_wp2_with fail
            go_loopw [10, 11] (fun ly s wq => ∃ (j : Nat) (vy : Value), vy = ly ∧ s = .int .i64 (j : Int) ∧ j ≤ m ∧ wq.ownsRow wo.heap.size 21 1 vy (rtL tk fb j).length (runes (rtL tk fb j)) ∧ Below wo.heap.size wo wq) (fun _ s _ => m - (intOf s).toNat)
            case atStart => exact ⟨0, _, rfl, rfl, by omega, World.ownsRow_made _ #[] 0 (Nat.le_refl _) (by simp [maxLen]) rfl, (Below.refl _ _).alloc (Nat.le_refl _) _⟩
            case round =>
              obtain ⟨j, vy, rfl, rfl, hj, hown, hbw⟩ := hrel
              have OY := Lib.hid hown; have BY := Lib.hid hbw
              have hsz2 := hbw.size
              have hll2 := rtL_len tk fb j
              clear hown hbw
              by_cases hjm : j < m
              · have k1 : (j : Int) < (m : Int) := by omega
                have k0' : (0 : Int) ≤ (j : Int) := by omega
                have k2' : (j : Int) < (cap : Int) := by omega
                have qt : wr.cell? ⟨g, j, none⟩ = some (.bool (tk j)) := (BY.out.cell (p := ⟨g, j, none⟩) hgo).trans ((RW.out.cell (show j < cap by omega)).trans (by rw [if_pos hjm]))
                have k5 : g < wr.heap.size := by omega
                cases htk : tk j
                · rw [htk] at qt
                  have HN : Hid (rtL tk fb (j + 1) = rtL tk fb j) := Lib.hid (by show (if tk j then _ else _) = _; rw [htk]; rfl)
                  clear htk
                  go_wp2_with fail
                  go_roundw
                  case rel => exact ⟨j + 1, vy, rfl, by go_num, by omega, by rw [HN.out]; exact OY.out, BY.out⟩
                  case measure => (simp [intOf] <;> omega)
                · rw [htk] at qt
                  have HN : Hid (rtL tk fb (j + 1) = rtL tk fb j ++ [fb j]) := Lib.hid (by show (if tk j then _ else _) = _; rw [htk]; rfl)
                  clear htk
                  obtain ⟨gb, ob, rfl, hgb, hcb⟩ := (HB.out.below (BW.out.trans (BY.out.mono hsz3)) (Nat.le_refl _)) (by omega)
                  have qb := hcb j hjm
                  have qgb : gb < wr.heap.size := by omega
                  have hol := OY.out.lt
                  clear hcb
                  go_wp2_with (at_builtin
                               refine wpList_append_lies _ rfl _ _ _ rfl wo.heap.size 21 j0 _ 1 4 Try.underlying22 J0.out J1.out J2.out J3.out rfl (by omega) vy (rtL tk fb j).length (runes (rtL tk fb j)) rfl (OY.out.alloc _) ⟨wr.heap.size, 0, none⟩ 1 1 [.int .i32 (fb j)] rfl rfl (World.news_of_block (heap_alloc_new _ _)) (by simp [Value.oneCell']) (by omega) (by unfold maxLen; omega) (by omega) (by simp; omega) (wr.heap.size + 1) (by simp) ?_
                               intro g' cap' w7 hown7 hgrow7 hat7 hlt7
                               have O7 := Lib.hid hown7; have G7 := Lib.hid hgrow7
                               clear hown7 hgrow7 hat7)
                  have BY2 := Lib.hid ((BY.out.alloc hsz2 (.cells #[.int .i32 (fb j)] 21)).grown G7.out (by simp; omega) (fun q e => (hol q e).1))
                  go_wp2_with fail
                  go_roundw
                  case rel => exact ⟨j + 1, _, rfl, by go_num, by omega, by rw [HN.out, List.length_append, runes_app]; exact O7.out, BY2.out⟩
                  case measure => (simp [intOf] <;> omega)
              · obtain rfl : j = m := by omega
                have knlt : ¬ (j : Int) < (j : Int) := by omega
                obtain ⟨m, rfl⟩ : ∃ m : Nat, m = j := ⟨_, rfl⟩
                have e9 := HTK.out
                subst e9
                have hrt := lf_rt m W fa fb n
                have OX3 := own_below OX.out BY.out
                have OY3 := OY.out
                have BM := Lib.hid (BW.out.trans (BY.out.mono hsz3))
                have hv := HV.out
                have hw := HW.out
                unfold jaroV at hv
                rw [if_neg (by omega), if_neg (by omega), ← hw] at hv
                clear OX OY BW BY RW HTK HV HW hw
                obtain ⟨A1, c1, rfl, hx⟩ := name_of_own OX3
                obtain ⟨B1, d1, rfl, hy⟩ := name_of_own OY3
                rw [← hrt] at hy
                clear OX3 OY3
                generalize hlx : lfN m W fa fb n = la at *
                generalize hly : rtL (tkN m W fa fb n) fb m = lb at *
                rw [← hrt]
                generalize hL : la.length = L at *
                generalize hfx : (fun k => la.getD k 0) = fx at *
                generalize hfy : (fun k => lb.getD k 0) = fy at *
                have HX := Lib.hid hx; have HY := Lib.hid hy
                clear hx hy hfx hfy hlx hly hrt hL
                obtain ⟨wm, rfl⟩ : ∃ wm : World, wm = wr := ⟨_, rfl⟩
                by_cases h0 : L = 0
                · rw [if_pos h0] at hv
                  subst h0
                  subst hv
                  go_wp2_with fail
                  go_ret
                  exact ⟨0, rfl, by decide, BM.out⟩
                · rw [if_neg h0] at hv
                  have HV := Lib.hid hv
                  clear hv
                  have e3 : ((L : Int) == 0) = false := by simp; omega
                  have e4 : ¬ (L : Int) = 0 := by omega
                  go_wp2_with fail
                  go_loopw [12, 13] (fun s t wr => ∃ k : Nat, t = .int .i64 (k : Int) ∧ s = .int .i64 (hamN fx fy k : Nat) ∧ k ≤ L ∧ Below wm.heap.size wm wr) (fun _ t _ => L - (intOf t).toNat)
                  case atStart => exact ⟨0, rfl, rfl, by omega, Below.refl _ _⟩
                  case round =>
                    obtain ⟨k, rfl, rfl, hk, hbr⟩ := hrel
                    have BR := Lib.hid hbr
                    have hszr := hbr.size
                    clear hbr
                    have hle := hamN_le fx fy k
                    by_cases hkn : k < L
                    · have h8 : (k : Int) < (L : Int) := by omega
                      have h80 : (0 : Int) ≤ (k : Int) := by omega
                      obtain ⟨ga, oa, rfl, hga, hca⟩ := (HX.out.below BR.out (Nat.le_refl _)) (by omega)
                      obtain ⟨gb, ob, rfl, hgb, hcb⟩ := (HY.out.below BR.out (Nat.le_refl _)) (by omega)
                      have qa := hca k hkn
                      have qb := hcb k hkn
                      have qga : ga < wr.heap.size := by omega
                      have qgb : gb < wr.heap.size := by omega
                      have HN : Hid (hamN fx fy (k + 1) = hamN fx fy k + (if fx k = fy k then 0 else 1)) := Lib.hid rfl
                      generalize hh : hamN fx fy k = h at *
                      clear hca hcb
                      cases hfe : (fx k == fy k)
                      · have HM2 : Hid (hamN fx fy (k + 1) = h + 1) := Lib.hid (by rw [HN.out, if_neg (by simpa using hfe)])
                        clear HN hh
                        go_wp2_with fail
                        refine Reg.wp_region_rd (by kernel_rfl) (by kernel_rfl) (fun _ => ?_)
                        repeat (refine Reg.rd_op rfl ?_; apply Exists.intro; apply And.intro; (intro w' hb; have hc := Reg.rd_cells hb; clear hb; go_simp; (try go_bits); first | done | (with_reducible exact rfl)); (intro _ a' ha'; simp only [Act.put, List.setIfInBounds_toArray, List.set_cons_zero, List.set_cons_succ] at ha'; subst ha'))
                        refine Reg.rd_end (fun wz hb => ?_)
                        have BR2 := Lib.hid (BR.out.trans (hb.mono hszr))
                        clear hb
                        go_wp2_with fail
                        go_roundw
                        case rel => exact ⟨k + 1, by go_num, by rw [HM2.out]; go_num, by omega, BR2.out⟩
                        case measure => (simp [intOf] <;> omega)
                      · have HM2 : Hid (hamN fx fy (k + 1) = h) := Lib.hid (by rw [HN.out, if_pos (by simpa using hfe)]; rfl)
                        clear HN hh
                        go_wp2_with fail
                        refine Reg.wp_region_rd (by kernel_rfl) (by kernel_rfl) (fun _ => ?_)
                        repeat (refine Reg.rd_op rfl ?_; apply Exists.intro; apply And.intro; (intro w' hb; have hc := Reg.rd_cells hb; clear hb; go_simp; (try go_bits); first | done | (with_reducible exact rfl)); (intro _ a' ha'; simp only [Act.put, List.setIfInBounds_toArray, List.set_cons_zero, List.set_cons_succ] at ha'; subst ha'))
                        refine Reg.rd_end (fun wz hb => ?_)
                        have BR2 := Lib.hid (BR.out.trans (hb.mono hszr))
                        clear hb
                        go_wp2_with fail
                        go_roundw
                        case rel => exact ⟨k + 1, by go_num, by rw [HM2.out], by omega, BR2.out⟩
                        case measure => (simp [intOf] <;> omega)
                    · obtain rfl : k = L := by omega
                      have h8 : ¬ (k : Int) < (k : Int) := by omega
                      have f1 := floatInt_fl n; have f2 := floatInt_fl m; have f3 := floatInt_fl k; have f4 := floatInt_fl (hamN fx fy k)
                      generalize fl (hamN fx fy k) = T at *
                      generalize hamN fx fy k = h at *
                      generalize fl n = N at *
                      generalize fl m = K at *
                      generalize fl k = M2 at *
                      go_wp2_with fail
                      go_ret
                      refine ⟨_, rfl, (ja_eq _ _ _ _ _ _ _ _ _ _ _ _).trans HV.out, ?_⟩
                      repeat refine wIf_below _ _ ?_
                      exact BM.out.trans (BR.out.mono BM.out.size)
end Go.Proofs.Ytkhdemaanakbeaa

namespace Go.Pst
open Go Ieee Go.RowKit
set_option linter.unusedVariables false
def wiV (J K s : Nat) : Nat := arV .add J (arV .mul (arV .mul K s) (arV .sub ONE J))
theorem wi_eq (J K s u : Nat) (w0 w1 w2 w3 : World) (h : cn u = J) : cn (arU .add w3 u (arU .mul w2 (arU .mul w1 K s) (arU .sub w0 ONE u))) = wiV J K s := by
  have hu : cn u = cn J := by rw [← h, cn_cn]
  unfold wiV
  rw [cn_arU]
  refine arV_cn .add hu ?_
  rw [cn_arU, cn_arV]
  refine arV_cn .mul ?_ ?_
  · rw [cn_arU, cn_arV]
  · rw [cn_arU, cn_arV]
    exact arV_cn .sub rfl hu
end Go.Pst
namespace Go.Proofs.Ytkhdemaanakbeaa
open Go.RowKit Go.Pst
set_option maxRecDepth 20000
set_option linter.unusedSimpArgs false
set_option linter.unusedVariables false
attribute [local go_sem] run_fsub run_fmul run_fadd
/-- So many code points two names begin with alike, of so many. -/
def wiK (fa fb : Nat → Int) (t : Nat) : Nat := (first (fun i => !(fa i == fb i)) t).getD t
theorem wiK_all {fa fb : Nat → Int} {t : Nat} (h : ∀ q, q < t → (fa q == fb q) = true) : wiK fa fb t = t := by
  unfold wiK; rw [first_none fun q hq => by rw [h q hq]; rfl]; rfl
theorem wiK_some {fa fb : Nat → Int} {t k : Nat} (hk : k < t) (h : ∀ q, q < k → (fa q == fb q) = true) (hn : (fa k == fb k) = false) : wiK fa fb t = k := by
  unfold wiK; rw [first_some (j := k) (by rw [hn]; rfl) (fun q hq => by rw [h q hq]; rfl) hk]; rfl
def wiBad (s : Nat) (most : Int) : Bool := decide (most < 0) || decide (64 < most) || !((fgt .f64 s 0 || feq .f64 s 0) && (flt .f64 s ONE || feq .f64 s ONE))
theorem jaro_any (A B : Option Addr) (n m c d : Nat) (fa fb : Nat → Int) (w : World) (hA : NameAt w w.heap.size A n fa) (hB : NameAt w w.heap.size B m fb) (hn : n ≤ 35184372088832) (hm : m ≤ 35184372088832) :
    Calls Try.prog 44 #[.slice A n c, .slice B m d] w (FlLike (jaroV n m fa fb) w) := by
  by_cases h0 : n = 0
  · subst h0
    by_cases h1 : m = 0
    · subst h1
      have e : jaroV 0 0 fa fb = ONE := by unfold jaroV; rw [if_pos ⟨rfl, rfl⟩]
      rw [e]
      go_enter Try.func44, Try.ntmps44
      go_wp2_with fail
      go_ret
      exact ⟨ONE, rfl, by decide, Below.refl _ _⟩
    · have e : jaroV 0 m fa fb = 0 := by unfold jaroV; rw [if_neg (by omega), if_pos (.inl rfl)]
      rw [e]
      have e2 : ((m : Int) == 0) = false := by simp; omega
      have e3 : ¬ (m : Int) = 0 := by omega
      go_enter Try.func44, Try.ntmps44
      go_wp2_with fail
      go_ret
      exact ⟨0, rfl, by decide, Below.refl _ _⟩
  · by_cases h1 : m = 0
    · subst h1
      have e : jaroV n 0 fa fb = 0 := by unfold jaroV; rw [if_neg (by omega), if_pos (.inr rfl)]
      rw [e]
      have e2 : ((n : Int) == 0) = false := by simp; omega
      have e3 : ¬ (n : Int) = 0 := by omega
      go_enter Try.func44, Try.ntmps44
      go_wp2_with fail
      go_ret
      exact ⟨0, rfl, by decide, Below.refl _ _⟩
    · have hj := jaro_core A B n m c d _ _ _ _ _ w (lf_rt m (jW n m) fa fb n) rfl rfl rfl (by have := lfN_len m (jW n m) fa fb n; omega) h0 h1 hn hm (matched_any A B n m c d fa fb w hA hB hn hm)
      unfold jaroV
      rw [if_neg (by omega), if_neg (by omega)]
      exact hj
theorem rjaro_any (A B : Option Addr) (n m c d : Nat) (fa fb : Nat → Int) (w : World) (hA : NameAt w w.heap.size A n fa) (hB : NameAt w w.heap.size B m fb) (hn : n ≤ 35184372088832) (hm : m ≤ 35184372088832) :
    Calls Try.prog 45 #[.slice A n c, .slice B m d] w (FlLike (jaroV n m fa fb) w) := by
  by_cases h0 : n = 0
  · subst h0
    by_cases h1 : m = 0
    · subst h1
      have e : jaroV 0 0 fa fb = ONE := by unfold jaroV; rw [if_pos ⟨rfl, rfl⟩]
      rw [e]
      go_enter Try.func45, Try.ntmps45
      go_wp2_with fail
      go_ret
      exact ⟨ONE, rfl, by decide, Below.refl _ _⟩
    · have e : jaroV 0 m fa fb = 0 := by unfold jaroV; rw [if_neg (by omega), if_pos (.inl rfl)]
      rw [e]
      have e2 : ((m : Int) == 0) = false := by simp; omega
      have e3 : ¬ (m : Int) = 0 := by omega
      go_enter Try.func45, Try.ntmps45
      go_wp2_with fail
      go_ret
      exact ⟨0, rfl, by decide, Below.refl _ _⟩
  · by_cases h1 : m = 0
    · subst h1
      have e : jaroV n 0 fa fb = 0 := by unfold jaroV; rw [if_neg (by omega), if_pos (.inr rfl)]
      rw [e]
      have e2 : ((n : Int) == 0) = false := by simp; omega
      have e3 : ¬ (n : Int) = 0 := by omega
      go_enter Try.func45, Try.ntmps45
      go_wp2_with fail
      go_ret
      exact ⟨0, rfl, by decide, Below.refl _ _⟩
    · exact rjaro_core A B n m c d _ fa fb w hA hB h0 h1 hn hm rfl
set_option maxHeartbeats 3000000 in
theorem winkler_bad (A B : Option Addr) (n m c d s : Nat) (most : Int) (w : World) (hb : wiBad s most = true) (t : Nat) :
    Calls Try.prog 40 #[.slice A n c, .slice B m d, .float .f64 s, .int .i64 most] w (SharePost t 1 w) := by
  unfold wiBad ONE at hb
  by_cases h1 : most < 0
  · clear hb
    go_enter Try.func40, Try.ntmps40
    go_wp2_with fail
    go_ret2
    exact ⟨0, rfl, fun _ => rfl, fun h => absurd h (by decide), Below.refl _ _⟩
  · by_cases h2 : 64 < most
    · clear hb
      have h3 : decide (most < 0) = false := decide_eq_false h1
      have h4 : decide (64 < most) = true := decide_eq_true h2
      go_enter Try.func40, Try.ntmps40
      go_wp2_with fail
      go_ret2
      exact ⟨0, rfl, fun _ => rfl, fun h => absurd h (by decide), Below.refl _ _⟩
    · have h3 : decide (most < 0) = false := decide_eq_false h1
      have h4 : decide (64 < most) = false := decide_eq_false h2
      cases gG : (fgt .f64 s 0 || feq .f64 s 0)
      · clear hb
        go_enter Try.func40, Try.ntmps40
        go_wp2_with fail
        go_ret2
        exact ⟨0, rfl, fun _ => rfl, fun h => absurd h (by decide), Below.refl _ _⟩
      · cases gL : (flt .f64 s 4607182418800017408 || feq .f64 s 4607182418800017408)
        · clear hb
          go_enter Try.func40, Try.ntmps40
          go_wp2_with fail
          go_ret2
          exact ⟨0, rfl, fun _ => rfl, fun h => absurd h (by decide), Below.refl _ _⟩
        · rw [h3, h4, gG, gL] at hb
          cases hb
set_option maxHeartbeats 3000000 in
theorem winkler_good (A B : Option Addr) (n m c d s J : Nat) (most : Nat) (fa fb : Nat → Int) (w : World) (hA : NameAt w w.heap.size A n fa) (hB : NameAt w w.heap.size B m fb) (hn : n ≤ 35184372088832) (hm : m ≤ 35184372088832)
    (hg : wiBad s most = false)
    (hJ : Calls Try.prog 44 #[.slice A n c, .slice B m d] w (FlLike J w)) :
    Calls Try.prog 40 #[.slice A n c, .slice B m d, .float .f64 s, .int .i64 most] w (SharePost (wiV J (fl (wiK fa fb (min most (min n m)))) s) 0 w) := by
  have HJ := Lib.hid hJ; have HA := Lib.hid hA; have HB := Lib.hid hB
  clear hJ hA hB
  unfold wiBad ONE at hg
  simp only [Bool.or_eq_false_iff, Bool.not_eq_false', Bool.and_eq_true] at hg
  obtain ⟨⟨h3, h4⟩, gG, gL⟩ := hg
  have hmo : most ≤ 64 := by have := of_decide_eq_false h4; omega
  have hmi : (most : Int) ≤ 64 := by omega
  obtain ⟨T, hT⟩ : ∃ T, T = min most (min n m) := ⟨_, rfl⟩
  rw [← hT]
  obtain ⟨v, hv⟩ : ∃ v, wiV J (fl (wiK fa fb T)) s = v := ⟨_, rfl⟩
  have HV := Lib.hid hv
  rw [hv]
  clear hv
  have HT := Lib.hid hT
  clear hT
  go_enter Try.func40, Try.ntmps40
  go_wp2_with fail
  refine (HJ.out).mono ?_
  rintro en wj ⟨u, rfl, hu, hbj⟩
  have HU := Lib.hid hu; have BJ := Lib.hid hbj
  have hszj := hbj.size
  clear hu hbj
  go_wp2_with fail
  go_loopw [11] (fun s wr => ∃ k : Nat, s = .int .i64 (k : Int) ∧ k ≤ T ∧ (∀ q, q < k → (fa q == fb q) = true) ∧ Below wj.heap.size wj wr) (fun s _ => T - (intOf s).toNat)
  case atStart => exact ⟨0, rfl, by omega, fun q hq => by omega, Below.refl _ _⟩
  case round =>
    obtain ⟨k, rfl, hk, hno, hbr⟩ := hrel
    have NO := Lib.hid hno; have BR := Lib.hid hbr
    have hszr := hbr.size
    have hT := HT.out
    clear hno hbr
    have k0 : (0 : Int) ≤ (k : Int) := by omega
    by_cases hkT : k < T
    · have k1 : (k : Int) < (most : Int) := by omega
      have k2 : (k : Int) < (n : Int) := by omega
      have k3 : (k : Int) < (m : Int) := by omega
      obtain ⟨ga, oa, rfl, hga, hca⟩ := (HA.out.below (BJ.out.trans (BR.out.mono hszj)) (Nat.le_refl _)) (by omega)
      obtain ⟨gb, ob, rfl, hgb, hcb⟩ := (HB.out.below (BJ.out.trans (BR.out.mono hszj)) (Nat.le_refl _)) (by omega)
      have qa := hca k (by omega)
      have qb := hcb k (by omega)
      have qga : ga < wr.heap.size := by omega
      have qgb : gb < wr.heap.size := by omega
      clear hca hcb
      cases hfe : (fa k == fb k)
      · have HK : Hid (wiK fa fb T = k) := Lib.hid (wiK_some hkT NO.out hfe)
        have f1 := (HK.out ▸ floatInt_fl k : floatOfInt .f64 (k : Int) = fl (wiK fa fb T))
        generalize fl (wiK fa fb T) = K at *
        clear hT
        go_wp2_with fail
        refine Reg.wp_region_rd (by kernel_rfl) (by kernel_rfl) (fun _ => ?_)
        repeat (refine Reg.rd_op rfl ?_; apply Exists.intro; apply And.intro; (intro w' hb; have hc := Reg.rd_cells hb; clear hb; go_simp; (try go_bits); first | done | (with_reducible exact rfl)); (intro _ a' ha'; simp only [Act.put, List.setIfInBounds_toArray, List.set_cons_zero, List.set_cons_succ] at ha'; subst ha'))
        refine Reg.rd_end (fun wz hb => ?_)
        have BR2 := Lib.hid (BR.out.trans (hb.mono hszr))
        clear hb
        go_wp2_with fail
        go_ret2
        refine ⟨_, rfl, fun h => absurd rfl h, fun _ => (wi_eq _ _ _ _ _ _ _ _ HU.out).trans HV.out, ?_⟩
        repeat refine wIf_below _ _ ?_
        exact BJ.out.trans (BR2.out.mono hszj)
      · have NO2 : Hid (∀ q, q < k + 1 → (fa q == fb q) = true) := Lib.hid (fun q hq => by
          by_cases e : q = k
          · rw [e]; exact hfe
          · exact NO.out q (by omega))
        clear hT
        go_wp2_with fail
        refine Reg.wp_region_rd (by kernel_rfl) (by kernel_rfl) (fun _ => ?_)
        repeat (refine Reg.rd_op rfl ?_; apply Exists.intro; apply And.intro; (intro w' hb; have hc := Reg.rd_cells hb; clear hb; go_simp; (try go_bits); first | done | (with_reducible exact rfl)); (intro _ a' ha'; simp only [Act.put, List.setIfInBounds_toArray, List.set_cons_zero, List.set_cons_succ] at ha'; subst ha'))
        refine Reg.rd_end (fun wz hb => ?_)
        have BR2 := Lib.hid (BR.out.trans (hb.mono hszr))
        clear hb
        go_wp2_with fail
        go_roundw
        case rel => exact ⟨k + 1, by go_num, by omega, NO2.out, BR2.out⟩
        case measure => (simp [intOf] <;> omega)
    · obtain rfl : k = T := by omega
      have HK : Hid (wiK fa fb k = k) := Lib.hid (wiK_all NO.out)
      have f1 : floatOfInt .f64 (k : Int) = fl (wiK fa fb k) := by rw [HK.out]; exact floatInt_fl k
      generalize fl (wiK fa fb k) = K at *
      by_cases c1 : k < most
      · have k1 : (k : Int) < (most : Int) := by omega
        by_cases c2 : k < n
        · have k2 : (k : Int) < (n : Int) := by omega
          have k3 : decide ((k : Int) < (m : Int)) = false := decide_eq_false (by omega)
          have k3' : decide (k < m) = false := decide_eq_false (by omega)
          have k3'' : ¬ k < m := by omega
          clear hT
          go_wp2_with fail
          refine Reg.wp_region_rd (by kernel_rfl) (by kernel_rfl) (fun _ => ?_)
          repeat (refine Reg.rd_op rfl ?_; apply Exists.intro; apply And.intro; (intro w' hb; have hc := Reg.rd_cells hb; clear hb; go_simp; (try go_bits); first | done | (with_reducible exact rfl)); (intro _ a' ha'; simp only [Act.put, List.setIfInBounds_toArray, List.set_cons_zero, List.set_cons_succ] at ha'; subst ha'))
          repeat (refine Reg.rd_skip rfl ?_; intro a' ha'; simp only [Act.put, List.setIfInBounds_toArray, List.set_cons_zero, List.set_cons_succ] at ha'; subst ha')
          repeat (refine Reg.rd_op rfl ?_; apply Exists.intro; apply And.intro; (intro w' hb; have hc := Reg.rd_cells hb; clear hb; go_simp; (try go_bits); first | done | (with_reducible exact rfl)); (intro _ a' ha'; simp only [Act.put, List.setIfInBounds_toArray, List.set_cons_zero, List.set_cons_succ] at ha'; subst ha'))
          repeat (refine Reg.rd_skip rfl ?_; intro a' ha'; simp only [Act.put, List.setIfInBounds_toArray, List.set_cons_zero, List.set_cons_succ] at ha'; subst ha')
          repeat (refine Reg.rd_op rfl ?_; apply Exists.intro; apply And.intro; (intro w' hb; have hc := Reg.rd_cells hb; clear hb; go_simp; (try go_bits); first | done | (with_reducible exact rfl)); (intro _ a' ha'; simp only [Act.put, List.setIfInBounds_toArray, List.set_cons_zero, List.set_cons_succ] at ha'; subst ha'))
          repeat (refine Reg.rd_skip rfl ?_; intro a' ha'; simp only [Act.put, List.setIfInBounds_toArray, List.set_cons_zero, List.set_cons_succ] at ha'; subst ha')
          repeat (refine Reg.rd_op rfl ?_; apply Exists.intro; apply And.intro; (intro w' hb; have hc := Reg.rd_cells hb; clear hb; go_simp; (try go_bits); first | done | (with_reducible exact rfl)); (intro _ a' ha'; simp only [Act.put, List.setIfInBounds_toArray, List.set_cons_zero, List.set_cons_succ] at ha'; subst ha'))
          refine Reg.rd_end (fun wz hb => ?_)
          have BR2 := Lib.hid (BR.out.trans (hb.mono hszr))
          clear hb
          go_wp2_with fail
          go_ret2
          refine ⟨_, rfl, fun h => absurd rfl h, fun _ => (wi_eq _ _ _ _ _ _ _ _ HU.out).trans HV.out, ?_⟩
          repeat refine wIf_below _ _ ?_
          exact BJ.out.trans (BR2.out.mono hszj)
        · have k2 : decide ((k : Int) < (n : Int)) = false := decide_eq_false (by omega)
          have k2' : decide (k < n) = false := decide_eq_false (by omega)
          have k2'' : ¬ k < n := by omega
          clear hT
          go_wp2_with fail
          refine Reg.wp_region_rd (by kernel_rfl) (by kernel_rfl) (fun _ => ?_)
          repeat (refine Reg.rd_op rfl ?_; apply Exists.intro; apply And.intro; (intro w' hb; have hc := Reg.rd_cells hb; clear hb; go_simp; (try go_bits); first | done | (with_reducible exact rfl)); (intro _ a' ha'; simp only [Act.put, List.setIfInBounds_toArray, List.set_cons_zero, List.set_cons_succ] at ha'; subst ha'))
          repeat (refine Reg.rd_skip rfl ?_; intro a' ha'; simp only [Act.put, List.setIfInBounds_toArray, List.set_cons_zero, List.set_cons_succ] at ha'; subst ha')
          repeat (refine Reg.rd_op rfl ?_; apply Exists.intro; apply And.intro; (intro w' hb; have hc := Reg.rd_cells hb; clear hb; go_simp; (try go_bits); first | done | (with_reducible exact rfl)); (intro _ a' ha'; simp only [Act.put, List.setIfInBounds_toArray, List.set_cons_zero, List.set_cons_succ] at ha'; subst ha'))
          repeat (refine Reg.rd_skip rfl ?_; intro a' ha'; simp only [Act.put, List.setIfInBounds_toArray, List.set_cons_zero, List.set_cons_succ] at ha'; subst ha')
          repeat (refine Reg.rd_op rfl ?_; apply Exists.intro; apply And.intro; (intro w' hb; have hc := Reg.rd_cells hb; clear hb; go_simp; (try go_bits); first | done | (with_reducible exact rfl)); (intro _ a' ha'; simp only [Act.put, List.setIfInBounds_toArray, List.set_cons_zero, List.set_cons_succ] at ha'; subst ha'))
          repeat (refine Reg.rd_skip rfl ?_; intro a' ha'; simp only [Act.put, List.setIfInBounds_toArray, List.set_cons_zero, List.set_cons_succ] at ha'; subst ha')
          repeat (refine Reg.rd_op rfl ?_; apply Exists.intro; apply And.intro; (intro w' hb; have hc := Reg.rd_cells hb; clear hb; go_simp; (try go_bits); first | done | (with_reducible exact rfl)); (intro _ a' ha'; simp only [Act.put, List.setIfInBounds_toArray, List.set_cons_zero, List.set_cons_succ] at ha'; subst ha'))
          refine Reg.rd_end (fun wz hb => ?_)
          have BR2 := Lib.hid (BR.out.trans (hb.mono hszr))
          clear hb
          go_wp2_with fail
          go_ret2
          refine ⟨_, rfl, fun h => absurd rfl h, fun _ => (wi_eq _ _ _ _ _ _ _ _ HU.out).trans HV.out, ?_⟩
          repeat refine wIf_below _ _ ?_
          exact BJ.out.trans (BR2.out.mono hszj)
      · have k1 : decide ((k : Int) < (most : Int)) = false := decide_eq_false (by omega)
        have k1' : decide (k < most) = false := decide_eq_false (by omega)
        have k1'' : ¬ k < most := by omega
        clear hT
        go_wp2_with fail
        refine Reg.wp_region_rd (by kernel_rfl) (by kernel_rfl) (fun _ => ?_)
        repeat (refine Reg.rd_op rfl ?_; apply Exists.intro; apply And.intro; (intro w' hb; have hc := Reg.rd_cells hb; clear hb; go_simp; (try go_bits); first | done | (with_reducible exact rfl)); (intro _ a' ha'; simp only [Act.put, List.setIfInBounds_toArray, List.set_cons_zero, List.set_cons_succ] at ha'; subst ha'))
        repeat (refine Reg.rd_skip rfl ?_; intro a' ha'; simp only [Act.put, List.setIfInBounds_toArray, List.set_cons_zero, List.set_cons_succ] at ha'; subst ha')
        repeat (refine Reg.rd_op rfl ?_; apply Exists.intro; apply And.intro; (intro w' hb; have hc := Reg.rd_cells hb; clear hb; go_simp; (try go_bits); first | done | (with_reducible exact rfl)); (intro _ a' ha'; simp only [Act.put, List.setIfInBounds_toArray, List.set_cons_zero, List.set_cons_succ] at ha'; subst ha'))
        repeat (refine Reg.rd_skip rfl ?_; intro a' ha'; simp only [Act.put, List.setIfInBounds_toArray, List.set_cons_zero, List.set_cons_succ] at ha'; subst ha')
        repeat (refine Reg.rd_op rfl ?_; apply Exists.intro; apply And.intro; (intro w' hb; have hc := Reg.rd_cells hb; clear hb; go_simp; (try go_bits); first | done | (with_reducible exact rfl)); (intro _ a' ha'; simp only [Act.put, List.setIfInBounds_toArray, List.set_cons_zero, List.set_cons_succ] at ha'; subst ha'))
        repeat (refine Reg.rd_skip rfl ?_; intro a' ha'; simp only [Act.put, List.setIfInBounds_toArray, List.set_cons_zero, List.set_cons_succ] at ha'; subst ha')
        repeat (refine Reg.rd_op rfl ?_; apply Exists.intro; apply And.intro; (intro w' hb; have hc := Reg.rd_cells hb; clear hb; go_simp; (try go_bits); first | done | (with_reducible exact rfl)); (intro _ a' ha'; simp only [Act.put, List.setIfInBounds_toArray, List.set_cons_zero, List.set_cons_succ] at ha'; subst ha'))
        refine Reg.rd_end (fun wz hb => ?_)
        have BR2 := Lib.hid (BR.out.trans (hb.mono hszr))
        clear hb
        go_wp2_with fail
        go_ret2
        refine ⟨_, rfl, fun h => absurd rfl h, fun _ => (wi_eq _ _ _ _ _ _ _ _ HU.out).trans HV.out, ?_⟩
        repeat refine wIf_below _ _ ?_
        exact BJ.out.trans (BR2.out.mono hszj)
set_option maxHeartbeats 3000000 in
theorem rwinkler_bad (A B : Option Addr) (n m c d s : Nat) (most : Int) (w : World) (hb : wiBad s most = true) (t : Nat) :
    Calls Try.prog 41 #[.slice A n c, .slice B m d, .float .f64 s, .int .i64 most] w (SharePost t 1 w) := by
  unfold wiBad ONE at hb
  by_cases h1 : most < 0
  · clear hb
    go_enter Try.func41, Try.ntmps41
    go_wp2_with fail
    go_ret2
    exact ⟨0, rfl, fun _ => rfl, fun h => absurd h (by decide), Below.refl _ _⟩
  · by_cases h2 : 64 < most
    · clear hb
      have h3 : decide (most < 0) = false := decide_eq_false h1
      have h4 : decide (64 < most) = true := decide_eq_true h2
      go_enter Try.func41, Try.ntmps41
      go_wp2_with fail
      go_ret2
      exact ⟨0, rfl, fun _ => rfl, fun h => absurd h (by decide), Below.refl _ _⟩
    · have h3 : decide (most < 0) = false := decide_eq_false h1
      have h4 : decide (64 < most) = false := decide_eq_false h2
      cases gG : (fgt .f64 s 0 || feq .f64 s 0)
      · clear hb
        go_enter Try.func41, Try.ntmps41
        go_wp2_with fail
        go_ret2
        exact ⟨0, rfl, fun _ => rfl, fun h => absurd h (by decide), Below.refl _ _⟩
      · cases gL : (flt .f64 s 4607182418800017408 || feq .f64 s 4607182418800017408)
        · clear hb
          go_enter Try.func41, Try.ntmps41
          go_wp2_with fail
          go_ret2
          exact ⟨0, rfl, fun _ => rfl, fun h => absurd h (by decide), Below.refl _ _⟩
        · rw [h3, h4, gG, gL] at hb
          cases hb
set_option maxHeartbeats 3000000 in
theorem rwinkler_good (A B : Option Addr) (n m c d s J : Nat) (most : Nat) (fa fb : Nat → Int) (w : World) (hA : NameAt w w.heap.size A n fa) (hB : NameAt w w.heap.size B m fb) (hn : n ≤ 35184372088832) (hm : m ≤ 35184372088832)
    (hg : wiBad s most = false)
    (hJ : Calls Try.prog 45 #[.slice A n c, .slice B m d] w (FlLike J w)) :
    Calls Try.prog 41 #[.slice A n c, .slice B m d, .float .f64 s, .int .i64 most] w (SharePost (wiV J (fl (wiK fa fb (min most (min n m)))) s) 0 w) := by
  have HJ := Lib.hid hJ; have HA := Lib.hid hA; have HB := Lib.hid hB
  clear hJ hA hB
  unfold wiBad ONE at hg
  simp only [Bool.or_eq_false_iff, Bool.not_eq_false', Bool.and_eq_true] at hg
  obtain ⟨⟨h3, h4⟩, gG, gL⟩ := hg
  have hmo : most ≤ 64 := by have := of_decide_eq_false h4; omega
  have hmi : (most : Int) ≤ 64 := by omega
  obtain ⟨T, hT⟩ : ∃ T, T = min most (min n m) := ⟨_, rfl⟩
  rw [← hT]
  obtain ⟨v, hv⟩ : ∃ v, wiV J (fl (wiK fa fb T)) s = v := ⟨_, rfl⟩
  have HV := Lib.hid hv
  rw [hv]
  clear hv
  have HT := Lib.hid hT
  clear hT
  go_enter Try.func41, Try.ntmps41
  go_wp2_with fail
  refine (HJ.out).mono ?_
  rintro en wj ⟨u, rfl, hu, hbj⟩
  have HU := Lib.hid hu; have BJ := Lib.hid hbj
  have hszj := hbj.size
  clear hu hbj
  go_wp2_with fail
  go_loopw [11] (fun s wr => ∃ k : Nat, s = .int .i64 (k : Int) ∧ k ≤ T ∧ (∀ q, q < k → (fa q == fb q) = true) ∧ Below wj.heap.size wj wr) (fun s _ => T - (intOf s).toNat)
  case atStart => exact ⟨0, rfl, by omega, fun q hq => by omega, Below.refl _ _⟩
  case round =>
    obtain ⟨k, rfl, hk, hno, hbr⟩ := hrel
    have NO := Lib.hid hno; have BR := Lib.hid hbr
    have hszr := hbr.size
    have hT := HT.out
    clear hno hbr
    have k0 : (0 : Int) ≤ (k : Int) := by omega
    by_cases hkT : k < T
    · have k1 : (k : Int) < (most : Int) := by omega
      have k2 : (k : Int) < (n : Int) := by omega
      have k3 : (k : Int) < (m : Int) := by omega
      obtain ⟨ga, oa, rfl, hga, hca⟩ := (HA.out.below (BJ.out.trans (BR.out.mono hszj)) (Nat.le_refl _)) (by omega)
      obtain ⟨gb, ob, rfl, hgb, hcb⟩ := (HB.out.below (BJ.out.trans (BR.out.mono hszj)) (Nat.le_refl _)) (by omega)
      have qa := hca k (by omega)
      have qb := hcb k (by omega)
      have qga : ga < wr.heap.size := by omega
      have qgb : gb < wr.heap.size := by omega
      clear hca hcb
      cases hfe : (fa k == fb k)
      · have HK : Hid (wiK fa fb T = k) := Lib.hid (wiK_some hkT NO.out hfe)
        have f1 := (HK.out ▸ floatInt_fl k : floatOfInt .f64 (k : Int) = fl (wiK fa fb T))
        generalize fl (wiK fa fb T) = K at *
        clear hT
        go_wp2_with fail
        refine Reg.wp_region_rd (by kernel_rfl) (by kernel_rfl) (fun _ => ?_)
        repeat (refine Reg.rd_op rfl ?_; apply Exists.intro; apply And.intro; (intro w' hb; have hc := Reg.rd_cells hb; clear hb; go_simp; (try go_bits); first | done | (with_reducible exact rfl)); (intro _ a' ha'; simp only [Act.put, List.setIfInBounds_toArray, List.set_cons_zero, List.set_cons_succ] at ha'; subst ha'))
        refine Reg.rd_end (fun wz hb => ?_)
        have BR2 := Lib.hid (BR.out.trans (hb.mono hszr))
        clear hb
        go_wp2_with fail
        go_ret2
        refine ⟨_, rfl, fun h => absurd rfl h, fun _ => (wi_eq _ _ _ _ _ _ _ _ HU.out).trans HV.out, ?_⟩
        repeat refine wIf_below _ _ ?_
        exact BJ.out.trans (BR2.out.mono hszj)
      · have NO2 : Hid (∀ q, q < k + 1 → (fa q == fb q) = true) := Lib.hid (fun q hq => by
          by_cases e : q = k
          · rw [e]; exact hfe
          · exact NO.out q (by omega))
        clear hT
        go_wp2_with fail
        refine Reg.wp_region_rd (by kernel_rfl) (by kernel_rfl) (fun _ => ?_)
        repeat (refine Reg.rd_op rfl ?_; apply Exists.intro; apply And.intro; (intro w' hb; have hc := Reg.rd_cells hb; clear hb; go_simp; (try go_bits); first | done | (with_reducible exact rfl)); (intro _ a' ha'; simp only [Act.put, List.setIfInBounds_toArray, List.set_cons_zero, List.set_cons_succ] at ha'; subst ha'))
        refine Reg.rd_end (fun wz hb => ?_)
        have BR2 := Lib.hid (BR.out.trans (hb.mono hszr))
        clear hb
        go_wp2_with fail
        go_roundw
        case rel => exact ⟨k + 1, by go_num, by omega, NO2.out, BR2.out⟩
        case measure => (simp [intOf] <;> omega)
    · obtain rfl : k = T := by omega
      have HK : Hid (wiK fa fb k = k) := Lib.hid (wiK_all NO.out)
      have f1 : floatOfInt .f64 (k : Int) = fl (wiK fa fb k) := by rw [HK.out]; exact floatInt_fl k
      generalize fl (wiK fa fb k) = K at *
      by_cases c1 : k < most
      · have k1 : (k : Int) < (most : Int) := by omega
        by_cases c2 : k < n
        · have k2 : (k : Int) < (n : Int) := by omega
          have k3 : decide ((k : Int) < (m : Int)) = false := decide_eq_false (by omega)
          have k3' : decide (k < m) = false := decide_eq_false (by omega)
          have k3'' : ¬ k < m := by omega
          clear hT
          go_wp2_with fail
          refine Reg.wp_region_rd (by kernel_rfl) (by kernel_rfl) (fun _ => ?_)
          repeat (refine Reg.rd_op rfl ?_; apply Exists.intro; apply And.intro; (intro w' hb; have hc := Reg.rd_cells hb; clear hb; go_simp; (try go_bits); first | done | (with_reducible exact rfl)); (intro _ a' ha'; simp only [Act.put, List.setIfInBounds_toArray, List.set_cons_zero, List.set_cons_succ] at ha'; subst ha'))
          repeat (refine Reg.rd_skip rfl ?_; intro a' ha'; simp only [Act.put, List.setIfInBounds_toArray, List.set_cons_zero, List.set_cons_succ] at ha'; subst ha')
          repeat (refine Reg.rd_op rfl ?_; apply Exists.intro; apply And.intro; (intro w' hb; have hc := Reg.rd_cells hb; clear hb; go_simp; (try go_bits); first | done | (with_reducible exact rfl)); (intro _ a' ha'; simp only [Act.put, List.setIfInBounds_toArray, List.set_cons_zero, List.set_cons_succ] at ha'; subst ha'))
          repeat (refine Reg.rd_skip rfl ?_; intro a' ha'; simp only [Act.put, List.setIfInBounds_toArray, List.set_cons_zero, List.set_cons_succ] at ha'; subst ha')
          repeat (refine Reg.rd_op rfl ?_; apply Exists.intro; apply And.intro; (intro w' hb; have hc := Reg.rd_cells hb; clear hb; go_simp; (try go_bits); first | done | (with_reducible exact rfl)); (intro _ a' ha'; simp only [Act.put, List.setIfInBounds_toArray, List.set_cons_zero, List.set_cons_succ] at ha'; subst ha'))
          repeat (refine Reg.rd_skip rfl ?_; intro a' ha'; simp only [Act.put, List.setIfInBounds_toArray, List.set_cons_zero, List.set_cons_succ] at ha'; subst ha')
          repeat (refine Reg.rd_op rfl ?_; apply Exists.intro; apply And.intro; (intro w' hb; have hc := Reg.rd_cells hb; clear hb; go_simp; (try go_bits); first | done | (with_reducible exact rfl)); (intro _ a' ha'; simp only [Act.put, List.setIfInBounds_toArray, List.set_cons_zero, List.set_cons_succ] at ha'; subst ha'))
          refine Reg.rd_end (fun wz hb => ?_)
          have BR2 := Lib.hid (BR.out.trans (hb.mono hszr))
          clear hb
          go_wp2_with fail
          go_ret2
          refine ⟨_, rfl, fun h => absurd rfl h, fun _ => (wi_eq _ _ _ _ _ _ _ _ HU.out).trans HV.out, ?_⟩
          repeat refine wIf_below _ _ ?_
          exact BJ.out.trans (BR2.out.mono hszj)
        · have k2 : decide ((k : Int) < (n : Int)) = false := decide_eq_false (by omega)
          have k2' : decide (k < n) = false := decide_eq_false (by omega)
          have k2'' : ¬ k < n := by omega
          clear hT
          go_wp2_with fail
          refine Reg.wp_region_rd (by kernel_rfl) (by kernel_rfl) (fun _ => ?_)
          repeat (refine Reg.rd_op rfl ?_; apply Exists.intro; apply And.intro; (intro w' hb; have hc := Reg.rd_cells hb; clear hb; go_simp; (try go_bits); first | done | (with_reducible exact rfl)); (intro _ a' ha'; simp only [Act.put, List.setIfInBounds_toArray, List.set_cons_zero, List.set_cons_succ] at ha'; subst ha'))
          repeat (refine Reg.rd_skip rfl ?_; intro a' ha'; simp only [Act.put, List.setIfInBounds_toArray, List.set_cons_zero, List.set_cons_succ] at ha'; subst ha')
          repeat (refine Reg.rd_op rfl ?_; apply Exists.intro; apply And.intro; (intro w' hb; have hc := Reg.rd_cells hb; clear hb; go_simp; (try go_bits); first | done | (with_reducible exact rfl)); (intro _ a' ha'; simp only [Act.put, List.setIfInBounds_toArray, List.set_cons_zero, List.set_cons_succ] at ha'; subst ha'))
          repeat (refine Reg.rd_skip rfl ?_; intro a' ha'; simp only [Act.put, List.setIfInBounds_toArray, List.set_cons_zero, List.set_cons_succ] at ha'; subst ha')
          repeat (refine Reg.rd_op rfl ?_; apply Exists.intro; apply And.intro; (intro w' hb; have hc := Reg.rd_cells hb; clear hb; go_simp; (try go_bits); first | done | (with_reducible exact rfl)); (intro _ a' ha'; simp only [Act.put, List.setIfInBounds_toArray, List.set_cons_zero, List.set_cons_succ] at ha'; subst ha'))
          repeat (refine Reg.rd_skip rfl ?_; intro a' ha'; simp only [Act.put, List.setIfInBounds_toArray, List.set_cons_zero, List.set_cons_succ] at ha'; subst ha')
          repeat (refine Reg.rd_op rfl ?_; apply Exists.intro; apply And.intro; (intro w' hb; have hc := Reg.rd_cells hb; clear hb; go_simp; (try go_bits); first | done | (with_reducible exact rfl)); (intro _ a' ha'; simp only [Act.put, List.setIfInBounds_toArray, List.set_cons_zero, List.set_cons_succ] at ha'; subst ha'))
          refine Reg.rd_end (fun wz hb => ?_)
          have BR2 := Lib.hid (BR.out.trans (hb.mono hszr))
          clear hb
          go_wp2_with fail
          go_ret2
          refine ⟨_, rfl, fun h => absurd rfl h, fun _ => (wi_eq _ _ _ _ _ _ _ _ HU.out).trans HV.out, ?_⟩
          repeat refine wIf_below _ _ ?_
          exact BJ.out.trans (BR2.out.mono hszj)
      · have k1 : decide ((k : Int) < (most : Int)) = false := decide_eq_false (by omega)
        have k1' : decide (k < most) = false := decide_eq_false (by omega)
        have k1'' : ¬ k < most := by omega
        clear hT
        go_wp2_with fail
        refine Reg.wp_region_rd (by kernel_rfl) (by kernel_rfl) (fun _ => ?_)
        repeat (refine Reg.rd_op rfl ?_; apply Exists.intro; apply And.intro; (intro w' hb; have hc := Reg.rd_cells hb; clear hb; go_simp; (try go_bits); first | done | (with_reducible exact rfl)); (intro _ a' ha'; simp only [Act.put, List.setIfInBounds_toArray, List.set_cons_zero, List.set_cons_succ] at ha'; subst ha'))
        repeat (refine Reg.rd_skip rfl ?_; intro a' ha'; simp only [Act.put, List.setIfInBounds_toArray, List.set_cons_zero, List.set_cons_succ] at ha'; subst ha')
        repeat (refine Reg.rd_op rfl ?_; apply Exists.intro; apply And.intro; (intro w' hb; have hc := Reg.rd_cells hb; clear hb; go_simp; (try go_bits); first | done | (with_reducible exact rfl)); (intro _ a' ha'; simp only [Act.put, List.setIfInBounds_toArray, List.set_cons_zero, List.set_cons_succ] at ha'; subst ha'))
        repeat (refine Reg.rd_skip rfl ?_; intro a' ha'; simp only [Act.put, List.setIfInBounds_toArray, List.set_cons_zero, List.set_cons_succ] at ha'; subst ha')
        repeat (refine Reg.rd_op rfl ?_; apply Exists.intro; apply And.intro; (intro w' hb; have hc := Reg.rd_cells hb; clear hb; go_simp; (try go_bits); first | done | (with_reducible exact rfl)); (intro _ a' ha'; simp only [Act.put, List.setIfInBounds_toArray, List.set_cons_zero, List.set_cons_succ] at ha'; subst ha'))
        repeat (refine Reg.rd_skip rfl ?_; intro a' ha'; simp only [Act.put, List.setIfInBounds_toArray, List.set_cons_zero, List.set_cons_succ] at ha'; subst ha')
        repeat (refine Reg.rd_op rfl ?_; apply Exists.intro; apply And.intro; (intro w' hb; have hc := Reg.rd_cells hb; clear hb; go_simp; (try go_bits); first | done | (with_reducible exact rfl)); (intro _ a' ha'; simp only [Act.put, List.setIfInBounds_toArray, List.set_cons_zero, List.set_cons_succ] at ha'; subst ha'))
        refine Reg.rd_end (fun wz hb => ?_)
        have BR2 := Lib.hid (BR.out.trans (hb.mono hszr))
        clear hb
        go_wp2_with fail
        go_ret2
        refine ⟨_, rfl, fun h => absurd rfl h, fun _ => (wi_eq _ _ _ _ _ _ _ _ HU.out).trans HV.out, ?_⟩
        repeat refine wIf_below _ _ ?_
        exact BJ.out.trans (BR2.out.mono hszj)
end Go.Proofs.Ytkhdemaanakbeaa
