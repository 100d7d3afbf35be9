/- Jaro's matches: the program's walk. Condition: names of at most 2^45 code points. -/
import Derived.Test.YtkhdemaanakbeaaJa
import Derived.Test.YtkhdemaanakbeaaEj
import Derived.Deep.OwnRows
namespace Go.Proofs.Ytkhdemaanakbeaa
open Go.RowKit Go.Pst
set_option maxRecDepth 20000
set_option linter.unusedSimpArgs false
set_option linter.unusedVariables false
theorem infoBool : (Try.prog.info? 4).map (fun i => (i.zero, i.size, i.bytes)) = some (some (.bool false), 1, 1) := by kernel_rfl
set_option maxHeartbeats 3000000 in
theorem matched_any (A B : Option Addr) (n m c d : Nat) (fa fb : Nat → Int) (w : World) (hA : NameAt w w.heap.size A n fa) (hB : NameAt w w.heap.size B m fb) (hn : n ≤ 35184372088832) (hm : m ≤ 35184372088832) :
    Calls Try.prog 59 #[.slice A n c, .slice B m d] w (ApplyPost (lfN m (jW n m) fa fb n) (rtL (tkN m (jW n m) fa fb n) fb m) w) := by
  obtain ⟨j0, hj0, hy0, hy1, hy2⟩ := info_parts infoRune
  have J0 := Lib.hid hj0; have J1 := Lib.hid hy0; have J2 := Lib.hid hy1; have J3 := Lib.hid hy2
  clear hj0 hy0 hy1 hy2
  have mk1 := run_make_row' (P := Try.prog) 109 4 (.bool false) 1 Try.underlying109 infoBool rfl .i64 .i64 m (by omega) (by omega)
  have HA := Lib.hid hA; have HB := Lib.hid hB
  obtain ⟨W, hW⟩ : ∃ W, W = jW n m := ⟨_, rfl⟩
  have HW := Lib.hid hW
  have hWl : W ≤ 35184372088832 := by rw [hW]; unfold jW; omega
  rw [← hW]
  clear hA hB hW
  go_enter Try.func59, Try.ntmps59
  go_upto_region 1 with fail
  go_cut [6] (fun s wx => s = .int .i64 (W : Int) ∧ wx = w)
  case first =>
    have hw := HW.out
    unfold jW at hw
    rcases Nat.lt_or_ge n m with hnm | hnm
    · have e1 : max n m = m := by omega
      rw [e1] at hw
      have g1 : (n : Int) < (m : Int) := by omega
      clear e1
      go_wp2_with fail
      all_goals
        go_meet
        case rel => exact ⟨congrArg (Value.int .i64) (by omega), rfl⟩
    · have e1 : max n m = n := by omega
      rw [e1] at hw
      have g1 : ¬ (n : Int) < (m : Int) := by omega
      have g2 : (m : Int) ≤ (n : Int) := by omega
      clear e1
      go_wp2_with fail
      all_goals
        go_meet
        case rel => exact ⟨congrArg (Value.int .i64) (by omega), rfl⟩
  case rest =>
    obtain ⟨rfl, hwc⟩ := hcut
    obtain rfl := hwc.symm
    go_wp2_with fail
    go_loopw [8, 28] (fun lx t wr => ∃ (i : Nat) (vx : Value), vx = lx ∧ t = .int .i64 (i : Int) ∧ i ≤ n ∧ wr.rowIs w.heap.size 4 m (fun q => .bool (tkN m W fa fb i q)) ∧ wr.ownsRow (w.heap.size + 1) 21 1 vx (lfN m W fa fb i).length (runes (lfN m W fa fb i)) ∧ Below w.heap.size w wr) (fun _ t _ => n - (intOf t).toNat)
    case atStart => exact ⟨0, _, rfl, rfl, by omega, World.rowIs_made w (.bool false) m 4, World.ownsRow_nil _ _ _ _, (Below.refl _ _).alloc (Nat.le_refl _) _⟩
    case round =>
      obtain ⟨i, vx, rfl, rfl, hi, hrow, hown, hbw⟩ := hrel
      have RW := Lib.hid hrow; have OX := Lib.hid hown; have BW := Lib.hid hbw
      have hsz := hbw.size
      have hlt := hrow.lt
      have hll := lfN_len m W fa fb i
      clear hrow hown hbw
      by_cases hin : i < n
      · have h3 : (i : Int) < (n : Int) := by omega
        have h00 : (0 : Int) ≤ (i : Int) := by omega
        obtain ⟨ga, oa, rfl, hga, hca⟩ := (HA.out.below BW.out (Nat.le_refl _)) (by omega)
        have qa := hca i hin
        have qga : ga < wr.heap.size := by omega
        clear hca
        obtain ⟨lo, hlo⟩ : ∃ lo, lo = i - W := ⟨_, rfl⟩
        have HLO := Lib.hid hlo
        clear hlo
        go_upto_region 7 with fail
        go_cut [12] (fun s wx => s = .int .i64 (lo : Int) ∧ wx = wr)
        case first =>
          have hlo := HLO.out
          rcases Nat.lt_or_ge W i with hwi | hwi
          · have g1 : (W : Int) < (i : Int) := by omega
            go_wp2_with fail
            all_goals
              go_meet
              case rel => exact ⟨congrArg (Value.int .i64) (by omega), rfl⟩
          · have g1 : (i : Int) ≤ (W : Int) := by omega
            go_wp2_with fail
            all_goals
              go_meet
              case rel => exact ⟨congrArg (Value.int .i64) (by omega), rfl⟩
        case rest =>
          obtain ⟨rfl, hwc⟩ := hcut
          obtain rfl := hwc.symm
          obtain ⟨wo, rfl⟩ : ∃ wo : World, wo = wr := ⟨_, rfl⟩
          go_wp2_with fail
          go_loopw [8, 12] (fun lx s wq => ∃ j : Nat, vx = lx ∧ s = .int .i64 (j : Int) ∧ j ≤ m + n ∧ lo ≤ j ∧ (∀ q, q < j → jP W fa fb (tkN m W fa fb i) i q = false) ∧ wq = wo) (fun _ s _ => m - (intOf s).toNat)
          case atStart =>
            have hlo := HLO.out
            exact ⟨lo, rfl, rfl, by omega, Nat.le_refl _, fun q hq => by unfold jP; rw [decide_eq_false (by omega : ¬ i ≤ q + W)]; simp, rfl⟩
          case round =>
            obtain ⟨j, rfl, rfl, hjb, hjl, hno, hwq⟩ := hrel
            subst hwq
            have NO := Lib.hid hno
            clear hno
            by_cases hjm : j < m
            · have k1 : (j : Int) < (m : Int) := by omega
              have k0 : (0 : Int) ≤ (j : Int) := by omega
              by_cases hjw : j ≤ i + W
              · have k2 : (j : Int) ≤ (i : Int) + (W : Int) := by omega
                have qt := RW.out.cell hjm
                obtain ⟨gb, ob, rfl, hgb, hcb⟩ := (HB.out.below BW.out (Nat.le_refl _)) (by omega)
                have qb := hcb j hjm
                have qgb : gb < wr.heap.size := by omega
                clear hcb
                cases htk : tkN m W fa fb i j
                · rw [htk] at qt
                  cases hfe : (fb j == fa i)
                  · have NO2 : Hid (∀ q, q < j + 1 → jP W fa fb (tkN m W fa fb i) i q = false) := Lib.hid (fun q hq => by
                      by_cases e : q = j
                      · rw [e]; unfold jP; rw [hfe]; simp
                      · exact NO.out q (by omega))
                    go_wp2_with fail
                    go_roundw
                    case rel => exact ⟨j + 1, rfl, by go_num, by omega, by omega, NO2.out, by first | rfl | trivial⟩
                    case measure => (simp [intOf] <;> omega)
                  · have FS : Hid (first (jP W fa fb (tkN m W fa fb i) i) m = some j) := Lib.hid (first_some (by
                        unfold jP; rw [htk, hfe, decide_eq_true hjw]
                        have : i ≤ j + W := by have hlo := HLO.out; omega
                        rw [decide_eq_true this]; rfl) NO.out hjm)
                    have fr := RW.out.frozen j
                    have RW1 := Lib.hid (RW.out.set j (.bool true))
                    have OX1 := Lib.hid (ownsRow_setCell_below OX.out (a := ⟨w.heap.size, j, none⟩) (by show w.heap.size < w.heap.size + 1; omega) (.bool true))
                    have BW1 := Lib.hid (BW.out.setCell (p := ⟨w.heap.size, j, none⟩) (Nat.le_refl _) (.bool true))
                    have hol := OX.out.lt
                    go_wp2_with (at_builtin
                                 refine wpList_append_lies _ rfl _ _ _ rfl (w.heap.size + 1) 21 j0 _ 1 4 Try.underlying22 J0.out J1.out J2.out J3.out rfl (by omega) vx (lfN m W fa fb i).length (runes (lfN m W fa fb i)) rfl (OX1.out.alloc _) ⟨wr.heap.size, 0, none⟩ 1 1 [.int .i32 (fa i)] rfl rfl (World.news_of_block (cs := #[.int .i32 (fa i)]) (t := 21) (fr := (0, 0)) (by simpa using heap_alloc_new (wr.setCell ⟨w.heap.size, j, none⟩ (.bool true)) (.cells #[.int .i32 (fa i)] 21))) (by simp [Value.oneCell']) (by omega) (by unfold maxLen; omega) (by omega) (by simp; omega) (wr.heap.size + 1) (by simp) ?_
                                 intro g' cap' w7 hown7 hgrow7 hat7 hlt7
                                 have O7 := Lib.hid hown7; have G7 := Lib.hid hgrow7
                                 clear hown7 hgrow7 hat7)
                    have RW2 : Hid (w7.rowIs w.heap.size 4 m (fun q => .bool (tkN m W fa fb (i + 1) q))) := Lib.hid (by
                      refine ((RW1.out.alloc _).of_block (G7.out.block w.heap.size (by simp; omega) (fun e => by have := (hol _ e.symm).1; omega))).congr fun q hq => ?_
                      rw [tk_some FS.out]
                      by_cases e : q = j
                      · rw [if_pos e, e]; simp
                      · rw [if_neg e]; have : (q == j) = false := by simpa using e
                        simp only [this, Bool.false_or])
                    have OX2 : Hid (w7.ownsRow (w.heap.size + 1) 21 1 (.slice (some ⟨g', 0, none⟩) ((lfN m W fa fb i).length + 1) cap') (lfN m W fa fb (i + 1)).length (runes (lfN m W fa fb (i + 1)))) := Lib.hid (by
                      rw [lf_some FS.out, List.length_append, runes_app]; exact O7.out)
                    have BW2 := Lib.hid ((BW1.out.alloc (by simp; omega) (.cells #[.int .i32 (fa i)] 21)).grown G7.out (by simp; omega) (fun q e => by have := (hol q e).1; omega))
                    go_wp2_with fail
                    go_roundw
                    case rel => exact ⟨i + 1, _, rfl, by go_num, by omega, RW2.out, OX2.out, BW2.out⟩
                    case measure => (simp [intOf] <;> omega)
                · rw [htk] at qt
                  have NO2 : Hid (∀ q, q < j + 1 → jP W fa fb (tkN m W fa fb i) i q = false) := Lib.hid (fun q hq => by
                    by_cases e : q = j
                    · rw [e]; unfold jP; rw [htk]; simp
                    · exact NO.out q (by omega))
                  go_wp2_with fail
                  go_roundw
                  case rel => exact ⟨j + 1, rfl, by go_num, by omega, by omega, NO2.out, by first | rfl | trivial⟩
                  case measure => (simp [intOf] <;> omega)
              · have k2 : ¬ (j : Int) ≤ (i : Int) + (W : Int) := by omega
                have FN : Hid (first (jP W fa fb (tkN m W fa fb i) i) m = none) := Lib.hid (first_none fun q hq => by
                  by_cases e : q < j
                  · exact NO.out q e
                  · unfold jP; rw [decide_eq_false (by omega : ¬ q ≤ i + W)]; simp)
                have RW2 : Hid (wr.rowIs w.heap.size 4 m (fun q => .bool (tkN m W fa fb (i + 1) q))) := Lib.hid (by rw [tk_none FN.out]; exact RW.out)
                have OX2 : Hid (wr.ownsRow (w.heap.size + 1) 21 1 vx (lfN m W fa fb (i + 1)).length (runes (lfN m W fa fb (i + 1)))) := Lib.hid (by rw [lf_none FN.out]; exact OX.out)
                go_wp2_with fail
                go_roundw
                case rel => exact ⟨i + 1, vx, rfl, by go_num, by omega, RW2.out, OX2.out, BW.out⟩
                case measure => (simp [intOf] <;> omega)
            · have k1 : ¬ (j : Int) < (m : Int) := by omega
              have FN : Hid (first (jP W fa fb (tkN m W fa fb i) i) m = none) := Lib.hid (first_none fun q hq => NO.out q (by omega))
              have RW2 : Hid (wr.rowIs w.heap.size 4 m (fun q => .bool (tkN m W fa fb (i + 1) q))) := Lib.hid (by rw [tk_none FN.out]; exact RW.out)
              have OX2 : Hid (wr.ownsRow (w.heap.size + 1) 21 1 vx (lfN m W fa fb (i + 1)).length (runes (lfN m W fa fb (i + 1)))) := Lib.hid (by rw [lf_none FN.out]; exact OX.out)
              go_wp2_with fail
              go_roundw
              case rel => exact ⟨i + 1, vx, rfl, by go_num, by omega, RW2.out, OX2.out, BW.out⟩
              case measure => (simp [intOf] <;> omega)
      · obtain rfl : i = n := by omega
        have hnlt : ¬ (i : Int) < (i : Int) := by omega
        obtain ⟨tk, htk⟩ : ∃ tk, tk = tkN m W fa fb i := ⟨_, rfl⟩
        rw [← htk] at RW
        have HTK := Lib.hid htk
        clear htk
        obtain ⟨wo, rfl⟩ : ∃ wo : World, wo = wr := ⟨_, rfl⟩
        go_wp2_with fail
        go_loopw [9, 73] (fun ly s wq => ∃ (j : Nat) (vy : Value), vy = ly ∧ s = .int .i64 (j : Int) ∧ j ≤ m ∧ wq.ownsRow wo.heap.size 21 1 vy (rtL tk fb j).length (runes (rtL tk fb j)) ∧ Below wo.heap.size wo wq) (fun _ s _ => m - (intOf s).toNat)
        case atStart => exact ⟨0, _, rfl, rfl, by omega, World.ownsRow_nil _ _ _ _, Below.refl _ _⟩
        case round =>
          obtain ⟨j, vy, rfl, rfl, hj, hown, hbw⟩ := hrel
          have OY := Lib.hid hown; have BY := Lib.hid hbw
          have hsz2 := hbw.size
          have hll2 := rtL_len tk fb j
          clear hown hbw
          by_cases hjm : j < m
          · have k1 : (j : Int) < (m : Int) := by omega
            have k0 : (0 : Int) ≤ (j : Int) := by omega
            have qt := (BY.out.cell (p := ⟨w.heap.size, j, none⟩) hlt).trans (RW.out.cell hjm)
            have k5 : w.heap.size < wr.heap.size := by omega
            cases htk : tk j
            · rw [htk] at qt
              have HN : Hid (rtL tk fb (j + 1) = rtL tk fb j) := Lib.hid (by show (if tk j then _ else _) = _; rw [htk]; rfl)
              clear htk
              go_wp2_with fail
              go_roundw
              case rel => exact ⟨j + 1, vy, rfl, by go_num, by omega, by rw [HN.out]; exact OY.out, BY.out⟩
              case measure => (simp [intOf] <;> omega)
            · rw [htk] at qt
              have HN : Hid (rtL tk fb (j + 1) = rtL tk fb j ++ [fb j]) := Lib.hid (by show (if tk j then _ else _) = _; rw [htk]; rfl)
              clear htk
              obtain ⟨gb, ob, rfl, hgb, hcb⟩ := (HB.out.below (BW.out.trans (BY.out.mono hsz)) (Nat.le_refl _)) (by omega)
              have qb := hcb j hjm
              have qgb : gb < wr.heap.size := by omega
              have hol := OY.out.lt
              clear hcb
              go_wp2_with (at_builtin
                           refine wpList_append_lies _ rfl _ _ _ rfl wo.heap.size 21 j0 _ 1 4 Try.underlying22 J0.out J1.out J2.out J3.out rfl (by omega) vy (rtL tk fb j).length (runes (rtL tk fb j)) rfl (OY.out.alloc _) ⟨wr.heap.size, 0, none⟩ 1 1 [.int .i32 (fb j)] rfl rfl (World.news_of_block (heap_alloc_new _ _)) (by simp [Value.oneCell']) (by omega) (by unfold maxLen; omega) (by omega) (by simp; omega) (wr.heap.size + 1) (by simp) ?_
                           intro g' cap' w7 hown7 hgrow7 hat7 hlt7
                           have O7 := Lib.hid hown7; have G7 := Lib.hid hgrow7
                           clear hown7 hgrow7 hat7)
              have BY2 := Lib.hid ((BY.out.alloc hsz2 (.cells #[.int .i32 (fb j)] 21)).grown G7.out (by simp; omega) (fun q e => (hol q e).1))
              go_wp2_with fail
              go_roundw
              case rel => exact ⟨j + 1, _, rfl, by go_num, by omega, by rw [HN.out, List.length_append, runes_app]; exact O7.out, BY2.out⟩
              case measure => (simp [intOf] <;> omega)
          · obtain rfl : j = m := by omega
            have knlt : ¬ (j : Int) < (j : Int) := by omega
            have OX3 := Lib.hid (own_less (own_below OX.out BY.out) (show w.heap.size ≤ w.heap.size + 1 by omega))
            have OY3 := Lib.hid (own_less OY.out hsz)
            have BZ := Lib.hid (BW.out.trans (BY.out.mono hsz))
            obtain ⟨A', c', rfl⟩ : ∃ A' c', vx = .slice A' (lfN j W fa fb i).length c' := by
              rcases OX.out.2 with ⟨h1, h2⟩ | ⟨g', cap', cur', h1, _⟩
              · exact ⟨none, 0, by rw [h1, h2]⟩
              · exact ⟨_, _, h1⟩
            obtain ⟨B', d', rfl⟩ : ∃ A' c', vy = .slice A' (rtL tk fb j).length c' := by
              rcases OY.out.2 with ⟨h1, h2⟩ | ⟨g', cap', cur', h1, _⟩
              · exact ⟨none, 0, by rw [h1, h2]⟩
              · exact ⟨_, _, h1⟩
            go_wp2_with fail
            go_ret2
            have e9 := HTK.out
            subst e9
            exact ⟨_, _, _, _, rfl, OX3.out, OY3.out, BZ.out⟩
end Go.Proofs.Ytkhdemaanakbeaa
