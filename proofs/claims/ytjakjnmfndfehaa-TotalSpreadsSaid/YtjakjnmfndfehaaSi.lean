/- How two floats stand by their sizes: the program's comparison; the library's insertion sort by it. Condition: lists of at most 65536. -/
import Derived.Test.YtjakjnmfndfehaaSp
import Derived.Test.YtjakjnmfndfehaaMc
namespace Go.Pst
open Go Ieee Go.RowKit
set_option linter.unusedVariables false
/-- A float's size, none behind all. -/
def ky (u : Nat) : Nat := if nan64 u then 9223372036854775808 else u % 9223372036854775808
def bsC (u v : Nat) : Int := if ky u < ky v then -1 else if ky v < ky u then 1 else 0
theorem bsC_neg (u v : Nat) : decide (bsC u v < 0) = decide (ky u < ky v) := by
  unfold bsC
  by_cases h1 : ky u < ky v
  · rw [if_pos h1, decide_eq_true h1]; decide
  · rw [if_neg h1, decide_eq_false h1]
    by_cases h2 : ky v < ky u
    · rw [if_pos h2]; decide
    · rw [if_neg h2]; decide
theorem nan_mod (u : Nat) : nan64 (u % 9223372036854775808) = nan64 u := by unfold nan64; rw [Nat.mod_mod]
theorem key_mod (u : Nat) : key64 (u % 9223372036854775808) = ((u % 9223372036854775808 : Nat) : Int) := by
  unfold key64; rw [if_neg (by omega), Nat.mod_mod]
theorem flt_mod {u v : Nat} (hu : nan64 u = false) (hv : nan64 v = false) : flt .f64 (u % 9223372036854775808) (v % 9223372036854775808) = decide (ky u < ky v) := by
  unfold ky
  rw [flt64, nan_mod, nan_mod, hu, hv, key_mod, key_mod]
  simp; omega
theorem fgt_mod {u v : Nat} (hu : nan64 u = false) (hv : nan64 v = false) : fgt .f64 (u % 9223372036854775808) (v % 9223372036854775808) = decide (ky v < ky u) := by
  unfold ky
  rw [fgt64, nan_mod, nan_mod, hu, hv, key_mod, key_mod]
  simp; omega
theorem ky_num {u : Nat} (h : nan64 u = false) : ky u < 9223372036854775808 := by unfold ky; rw [h]; simp; exact Nat.mod_lt _ (by decide)
theorem ky_none {u : Nat} (h : nan64 u = true) : ky u = 9223372036854775808 := by unfold ky; rw [h]; rfl
end Go.Pst
namespace Go.Proofs.Ytjakjnmfndfehaa
open Go.RowKit Go.Pst
set_option maxRecDepth 20000
set_option linter.unusedSimpArgs false
set_option linter.unusedVariables false
theorem cnan_any (b : Nat) (w : World) : Calls Try.prog 119 #[.float .f64 b] w fun en w' => en = .returned (.bool (nan64 b)) ∧ w = w' := by
  have h := fne_self b
  go_enter Try.func119, Try.ntmps119
  go_wp2
  go_ret
  exact ⟨rfl, rfl⟩
theorem compare_num (a b : Nat) (x y : Bool) (w : World) (ha : nan64 a = false) (hb : nan64 b = false) (hx : flt .f64 a b = x) (hy : fgt .f64 a b = y) :
    Calls Try.prog 104 #[.float .f64 a, .float .f64 b] w fun en w' => en = .returned (.int .i64 (if x then -1 else if y then 1 else 0)) ∧ w = w' := by
  have HA := Lib.hid fun w => cnan_any a w
  have HB := Lib.hid fun w => cnan_any b w
  rw [ha] at HA
  rw [hb] at HB
  clear ha hb
  cases x <;> cases y
  all_goals
    simp only [Bool.false_eq_true, if_true, if_false]
    go_enter Try.func104, Try.ntmps104
    go_wp2_with fail
    refine (HA.out _).mono ?_
    rintro en w1 ⟨rfl, rfl⟩
    go_wp2_with fail
    refine (HB.out _).mono ?_
    rintro en w1 ⟨rfl, rfl⟩
    go_wp2_with fail
    go_ret
    exact ⟨rfl, rfl⟩
theorem bysize_any (u v : Nat) (w : World) (hu : u < 2 ^ 64) (hv : v < 2 ^ 64) :
    Calls Try.prog 72 #[.float .f64 u, .float .f64 v] w fun en w' => en = .returned (.int .i64 (bsC u v)) ∧ w = w' := by
  have h1 := fne_self u
  have h2 := fne_self v
  cases hnu : nan64 u
  · cases hnv : nan64 v
    · have hr : bsC u v = (if decide (ky u < ky v) then -1 else if decide (ky v < ky u) then 1 else 0) := by
        unfold bsC
        simp only [decide_eq_true_eq]
      rw [hr]
      have HC := Lib.hid fun w => compare_num _ _ _ _ w ((nan_mod u).trans hnu) ((nan_mod v).trans hnv) (flt_mod hnu hnv) (fgt_mod hnu hnv)
      have HA := Lib.hid fun w => mabs_any u w hu
      have HB := Lib.hid fun w => mabs_any v w hv
      generalize (if decide (ky u < ky v) = true then (-1 : Int) else if decide (ky v < ky u) = true then 1 else 0) = r at *
      generalize u % 9223372036854775808 = a at *
      generalize v % 9223372036854775808 = b at *
      rw [hnu] at h1
      rw [hnv] at h2
      clear hu hv hr
      go_enter Try.func72, Try.ntmps72
      go_wp2_with fail
      refine (HA.out _).mono ?_
      rintro en w1 ⟨rfl, rfl⟩
      go_wp2_with fail
      refine (HB.out _).mono ?_
      rintro en w1 ⟨rfl, rfl⟩
      go_wp2_with fail
      refine (HC.out _).mono ?_
      rintro en w1 ⟨rfl, rfl⟩
      go_wp2_with fail
      go_ret
      exact ⟨rfl, rfl⟩
    · have hr : bsC u v = -1 := by unfold bsC; rw [ky_none hnv, if_pos (ky_num hnu)]
      rw [hr]
      rw [hnu] at h1
      rw [hnv] at h2
      clear hu hv hr
      go_enter Try.func72, Try.ntmps72
      go_wp2_with fail
      go_ret
      exact ⟨rfl, rfl⟩
  · cases hnv : nan64 v
    · have hr : bsC u v = 1 := by unfold bsC; rw [ky_none hnu, if_neg (by have := ky_num hnv; omega), if_pos (ky_num hnv)]
      rw [hr]
      rw [hnu] at h1
      rw [hnv] at h2
      clear hu hv hr
      go_enter Try.func72, Try.ntmps72
      go_wp2_with fail
      go_ret
      exact ⟨rfl, rfl⟩
    · have hr : bsC u v = 0 := by unfold bsC; rw [ky_none hnu, ky_none hnv]; rfl
      rw [hr]
      rw [hnu] at h1
      rw [hnv] at h2
      clear hu hv hr
      go_enter Try.func72, Try.ntmps72
      go_wp2_with fail
      go_ret
      exact ⟨rfl, rfl⟩
theorem bysize_b (u v : Nat) (w : World) (hu : u < 2 ^ 64) (hv : v < 2 ^ 64) :
    Calls Try.prog 72 #[.float .f64 u, .float .f64 v] w fun en w' => en = .returned (.int .i64 (bsC u v)) ∧ Below w.heap.size w w' :=
  (bysize_any u v w hu hv).mono fun en w' ⟨h1, h2⟩ => ⟨h1, h2 ▸ Below.refl _ _⟩
set_option maxHeartbeats 2000000 in
theorem insertion_any (w0 : World) (B g n c M a b : Nat) (y π : Nat → Nat) (E : Nat → Value) (w : World) (hB : B ≤ g) (hb : Below B w0 w) (hw0 : B ≤ w0.heap.size) (hr : FR w g M n y π E) (hM : n ≤ M) (hn : n ≤ 65536) (hy : ∀ i, y i < 2 ^ 64) (hab : a ≤ b) (hbn : b ≤ n)
    (hid : ∀ p q, a ≤ p → p < q → q < b → π p < π q) :
    Calls Try.prog 117 #[.slice (some ⟨g, 0, none⟩) n c, .int .i64 (a : Int), .int .i64 (b : Int), .func (.func 72) #[] #[]] w
      fun en w' => (∃ v, en = .returned v) ∧ Below B w0 w' ∧ ∃ s, Pm a b s ∧ FR w' g M n y (fun p => π (s p)) E ∧ Srt (fun i => ky (y i)) (fun p => π (s p)) a b := by
  have HBW := Lib.hid hb; have HR := Lib.hid hr; have HY := Lib.hid hy; have HI := Lib.hid hid
  clear hb hr hy hid
  rcases Nat.eq_or_lt_of_le hab with hab' | hab'
  · subst hab'
    have k1 : ¬ (a : Int) + 1 < (a : Int) := by omega
    go_enter Try.func117, Try.ntmps117
    go_wp2_with fail
    go_loopw [8] (fun s wr => s = .int .i64 ((a : Int) + 1) ∧ wr = w) (fun _ _ => 0)
    case atStart => exact ⟨rfl, rfl⟩
    case round =>
      obtain ⟨rfl, hwc⟩ := hrel
      obtain rfl := hwc
      go_wp2_with fail
      go_end0
      exact ⟨⟨_, rfl⟩, HBW.out, fun p => p, Pm.same _ _, HR.out, fun p q _ _ _ => by omega⟩
  · go_enter Try.func117, Try.ntmps117
    go_wp2_with fail
    go_loopw [8] (fun s wr => ∃ (i : Nat) (σ : Nat → Nat), s = .int .i64 (i : Int) ∧ a < i ∧ i ≤ b ∧ Below B w0 wr ∧ FR wr g M n y (fun p => π (σ p)) E ∧ Pm a i σ ∧ Srt (fun i => ky (y i)) (fun p => π (σ p)) a i) (fun s _ => b - (intOf s).toNat)
    case atStart => exact ⟨a + 1, fun p => p, by go_num, by omega, by omega, HBW.out, HR.out, Pm.same _ _, fun p q _ _ _ => by omega⟩
    case round =>
      clear HBW HR
      obtain ⟨i, σ, rfl, hai, hib, hbw, hrow, hpm, hsr⟩ := hrel
      by_cases hlt' : i < b
      · have k1 : (i : Int) < (b : Int) := by omega
        have BW0 := Lib.hid hbw; have RW0 := Lib.hid hrow; have PM0 := Lib.hid hpm; have SR0 := Lib.hid hsr
        clear hbw hrow hpm hsr
        go_wp2_with fail
        go_loopw [9] (fun t wq => ∃ (j : Nat) (σ : Nat → Nat), t = .int .i64 (j : Int) ∧ a ≤ j ∧ j ≤ i ∧ Below B w0 wq ∧ FR wq g M n y (fun p => π (σ p)) E ∧ Pm a (i + 1) σ ∧ Ins (fun i => ky (y i)) (fun p => π (σ p)) a i j ∧ σ j = i ∧ ∀ p, a ≤ p → p ≤ i → p ≠ j → σ p < i) (fun t _ => (intOf t).toNat)
        case atStart => exact ⟨i, σ, rfl, by omega, by omega, BW0.out, RW0.out, PM0.out.wide (Nat.le_refl _) (by omega), ins_start SR0.out, PM0.out.out (.inr (Nat.le_refl _)), fun p x1 x2 x3 => (PM0.out.mem x1 (by omega)).2⟩
        case round =>
          clear BW0 RW0 PM0 SR0
          obtain ⟨j, σ, rfl, haj, hji, hbw, hrow, hpm, hins, hsj, hless⟩ := hrel
          have hszB := hbw.size
          have BW := Lib.hid hbw; have RW := Lib.hid hrow; have PM := Lib.hid hpm; have IN := Lib.hid hins; have SJ := Lib.hid hsj; have LS := Lib.hid hless
          have hlt := hrow.lt
          have hjn : j < n := by omega
          have hszB : B ≤ wr.heap.size := by omega
          clear hbw hpm hins hsj hless
          by_cases hja : a < j
          · obtain ⟨l, rfl⟩ : ∃ l, j = l + 1 := ⟨j - 1, by omega⟩
            have g1 : (a : Int) < (l : Int) + 1 := by omega
            have g2 : decide ((l : Int) + 1 > (a : Int)) = true := decide_eq_true (by omega)
            have g3 : (0 : Int) ≤ (l : Int) + 1 := by omega
            have g4 : (l : Int) + 1 < (n : Int) := by omega
            have g5 : (0 : Int) ≤ (l : Int) := by omega
            have g6 : (l : Int) < (n : Int) := by omega
            have c1 := hrow.cell hM hjn
            have c2 := hrow.cell hM (show l < n by omega)
            have f1 := hrow.frozen (l + 1)
            have f2 := hrow.frozen l
            clear hrow
            obtain ⟨u, hu⟩ : ∃ u, u = y (π (σ (l + 1))) := ⟨_, rfl⟩
            obtain ⟨v, hv⟩ : ∃ v, v = y (π (σ l)) := ⟨_, rfl⟩
            rw [← hu] at c1
            rw [← hv] at c2
            have HU := Lib.hid hu; have HV := Lib.hid hv
            have BC := Lib.hid fun w => bysize_b u v w (by rw [hu]; exact HY.out _) (by rw [hv]; exact HY.out _)
            clear hu hv
            cases hcc : decide (bsC u v < 0)
            · have KN : Hid (¬ ky (y (π (σ (l + 1)))) < ky (y (π (σ l)))) := Lib.hid (by
                rw [bsC_neg] at hcc
                rw [← HU.out, ← HV.out]; exact of_decide_eq_false hcc)
              have SN : Hid (Srt (fun i => ky (y i)) (fun p => π (σ p)) a (i + 1)) := Lib.hid (ins_stop IN.out (by omega) fun _ => lt3_not KN.out (by
                have hm := PM.out.mem (p := l) (by omega) (by omega)
                show π (σ l) < π (σ (l + 1))
                rw [SJ.out]
                exact HI.out _ _ hm.1 (LS.out _ (by omega) (by omega) (by omega)) hlt'))
              have hc2 : ¬ bsC u v < 0 := of_decide_eq_false hcc
              generalize bsC u v = r at *
              go_wp2_with fail
              refine Reg.wp_region_rd (by kernel_rfl) (by kernel_rfl) (fun _ => ?_)
              repeat (refine Reg.rd_op rfl ?_; apply Exists.intro; apply And.intro; (intro w' hb; have hc := Reg.rd_cells hb; clear hb; go_simp; (try go_bits); first | done | (with_reducible exact rfl)); (intro _ a' ha'; simp only [Act.put, List.setIfInBounds_toArray, List.set_cons_zero, List.set_cons_succ] at ha'; subst ha'))
              refine Reg.rd_op rfl ?_; apply Exists.intro; apply And.intro
              · intro w' hb; have hbw := Lib.hid hb; clear hb; go_simp; (try go_bits); exact BC.out _
              intro _ a' ha'; simp only [Act.put, List.setIfInBounds_toArray, List.set_cons_zero, List.set_cons_succ] at ha'; subst ha'
              repeat (refine Reg.rd_op rfl ?_; apply Exists.intro; apply And.intro; (intro w' hb; have hc := Reg.rd_cells hb; clear hb; go_simp; (try go_bits); first | done | (with_reducible exact rfl)); (intro _ a' ha'; simp only [Act.put, List.setIfInBounds_toArray, List.set_cons_zero, List.set_cons_succ] at ha'; subst ha'))
              refine Reg.rd_end (fun wz hb => ?_)
              have BQ := Lib.hid (BW.out.trans (hb.mono hszB))
              have RQ := Lib.hid (RW.out.below hb hlt)
              have hltq : g < wz.heap.size := by have := hb.size; omega
              clear hb
              go_wp2_with fail
              go_roundw
              case rel => exact ⟨i + 1, σ, by go_num, by omega, by omega, BQ.out, RQ.out, PM.out, SN.out⟩
              case measure => (simp [intOf] <;> omega)
            · have KL : Hid (ky (y (π (σ (l + 1)))) < ky (y (π (σ l)))) := Lib.hid (by
                rw [bsC_neg] at hcc
                rw [← HU.out, ← HV.out]; exact of_decide_eq_true hcc)
              have hc2 : bsC u v < 0 := of_decide_eq_true hcc
              generalize bsC u v = r at *
              go_wp2_with fail
              refine Reg.wp_region_rd (by kernel_rfl) (by kernel_rfl) (fun _ => ?_)
              repeat (refine Reg.rd_op rfl ?_; apply Exists.intro; apply And.intro; (intro w' hb; have hc := Reg.rd_cells hb; clear hb; go_simp; (try go_bits); first | done | (with_reducible exact rfl)); (intro _ a' ha'; simp only [Act.put, List.setIfInBounds_toArray, List.set_cons_zero, List.set_cons_succ] at ha'; subst ha'))
              refine Reg.rd_op rfl ?_; apply Exists.intro; apply And.intro
              · intro w' hb; have hbw := Lib.hid hb; clear hb; go_simp; (try go_bits); exact BC.out _
              intro _ a' ha'; simp only [Act.put, List.setIfInBounds_toArray, List.set_cons_zero, List.set_cons_succ] at ha'; subst ha'
              repeat (refine Reg.rd_op rfl ?_; apply Exists.intro; apply And.intro; (intro w' hb; have hc := Reg.rd_cells hb; clear hb; go_simp; (try go_bits); first | done | (with_reducible exact rfl)); (intro _ a' ha'; simp only [Act.put, List.setIfInBounds_toArray, List.set_cons_zero, List.set_cons_succ] at ha'; subst ha'))
              refine Reg.rd_end (fun wz hb => ?_)
              have BQ := Lib.hid (BW.out.trans (hb.mono hszB))
              have RQ := Lib.hid (RW.out.below hb hlt)
              have hltq : g < wz.heap.size := by have := hb.size; omega
              clear hb
              have c1 : wz.cell? ⟨g, l + 1, none⟩ = some (.float .f64 u) := by have := RQ.out.cell hM hjn; rwa [← HU.out] at this
              have c2 : wz.cell? ⟨g, l, none⟩ = some (.float .f64 v) := by have := RQ.out.cell hM (show l < n by omega); rwa [← HV.out] at this
              have f1 := RQ.out.frozen (l + 1)
              have f2 := RQ.out.frozen l
              have R3 := RQ.out.swap (i := l + 1) (j := l) hjn (by omega)
              rw [← HU.out, ← HV.out] at R3
              have R3 := Lib.hid R3
              have B3 := Lib.hid (((BQ.out.setCell (p := ⟨g, l + 1, none⟩) hB (.float .f64 v)).setCell (p := ⟨g, l, none⟩) hB (.float .f64 u)).drew)
              have PN := Lib.hid (PM.out.comp (swP_pm (a := a) (b := i + 1) (i := l + 1) (j := l) (by omega) (by omega) (by omega) (by omega)))
              have IJ := Lib.hid (ins_swap IN.out (by omega) (by omega) KL.out)
              have SJ2 : Hid (σ (swP (l + 1) l l) = i) := Lib.hid (by unfold swP; rw [if_neg (by omega), if_pos rfl]; exact SJ.out)
              have LS2 : Hid (∀ p, a ≤ p → p ≤ i → p ≠ l → σ (swP (l + 1) l p) < i) := Lib.hid (fun p x1 x2 x3 => by
                unfold swP
                by_cases e : p = l + 1
                · rw [if_pos e]; exact LS.out _ (by omega) (by omega) (by omega)
                · rw [if_neg e, if_neg x3]; exact LS.out _ x1 x2 e)
              go_wp2_with fail
              go_region
              clear c1 c2 f1 f2
              go_wp2_with fail
              go_roundw
              case rel => exact ⟨l, _, by go_num, by omega, by omega, B3.out, R3.out, PN.out, IJ.out, SJ2.out, LS2.out⟩
              case measure => (simp [intOf] <;> omega)
          · obtain rfl : j = a := by omega
            have g2 : decide ((j : Int) > (j : Int)) = false := by simp
            have g3 : decide ((j : Int) < (j : Int)) = false := by simp
            have g4 : ¬ (j : Int) < (j : Int) := by omega
            have SN : Hid (Srt (fun i => ky (y i)) (fun p => π (σ p)) j (i + 1)) := Lib.hid (ins_stop IN.out (by omega) fun h => absurd h hja)
            clear hrow
            go_wp2_with fail
            refine Reg.wp_region_rd (by kernel_rfl) (by kernel_rfl) (fun _ => ?_)
            repeat (refine Reg.rd_op rfl ?_; apply Exists.intro; apply And.intro; (intro w' hb; have hc := Reg.rd_cells hb; clear hb; go_simp; (try go_bits); first | done | (with_reducible exact rfl)); (intro _ a' ha'; simp only [Act.put, List.setIfInBounds_toArray, List.set_cons_zero, List.set_cons_succ] at ha'; subst ha'))
            repeat (refine Reg.rd_skip rfl ?_; intro a' ha'; simp only [Act.put, List.setIfInBounds_toArray, List.set_cons_zero, List.set_cons_succ] at ha'; subst ha')
            repeat (refine Reg.rd_op rfl ?_; apply Exists.intro; apply And.intro; (intro w' hb; have hc := Reg.rd_cells hb; clear hb; go_simp; (try go_bits); first | done | (with_reducible exact rfl)); (intro _ a' ha'; simp only [Act.put, List.setIfInBounds_toArray, List.set_cons_zero, List.set_cons_succ] at ha'; subst ha'))
            refine Reg.rd_end (fun wz hb => ?_)
            have BQ := Lib.hid (BW.out.trans (hb.mono hszB))
            have RQ := Lib.hid (RW.out.below hb hlt)
            have hltq : g < wz.heap.size := by have := hb.size; omega
            clear hb
            go_wp2_with fail
            go_roundw
            case rel => exact ⟨i + 1, σ, by go_num, by omega, by omega, BQ.out, RQ.out, PM.out, SN.out⟩
            case measure => (simp [intOf] <;> omega)
      · obtain rfl : i = b := by omega
        have k1 : ¬ (i : Int) < (i : Int) := by omega
        have BW0 := Lib.hid hbw; have RW0 := Lib.hid hrow; have PM0 := Lib.hid hpm; have SR0 := Lib.hid hsr
        clear hbw hrow hpm hsr
        go_wp2_with fail
        go_end0
        exact ⟨⟨_, rfl⟩, BW0.out, σ, PM0.out, RW0.out, SR0.out⟩
end Go.Proofs.Ytjakjnmfndfehaa
