/- The library's SymMerge: one element put into an ordered part. Condition: lists of at most 65536. -/
import Derived.Test.YtjakjnmfndfehaaSi
namespace Go.Proofs.Ytjakjnmfndfehaa
open Go.RowKit Go.Pst
set_option maxRecDepth 20000
set_option linter.unusedSimpArgs false
set_option linter.unusedVariables false
/-- What a part of the sort leaves. -/
def SortPost (w0 : World) (B g n M a b : Nat) (y π : Nat → Nat) (E : Nat → Value) (en : Ending) (w' : World) : Prop :=
  (∃ v, en = .returned v) ∧ Below B w0 w' ∧ ∃ s, Pm a b s ∧ FR w' g M n y (fun p => π (s p)) E ∧ Srt (fun i => ky (y i)) (fun p => π (s p)) a b
set_option maxHeartbeats 2000000 in
theorem merge1_any (w0 : World) (B g n c M a b : Nat) (y π : Nat → Nat) (E : Nat → Value) (w : World) (hB : B ≤ g) (hb : Below B w0 w) (hw0 : B ≤ w0.heap.size) (hr : FR w g M n y π E) (hM : n ≤ M) (hn : n ≤ 65536) (hy : ∀ i, y i < 2 ^ 64) (hab : a + 1 < b) (hbn : b ≤ n)
    (hs : Srt (fun i => ky (y i)) π (a + 1) b) (ha : Ahd π a (a + 1) b) :
    Calls Try.prog 118 #[.slice (some ⟨g, 0, none⟩) n c, .int .i64 (a : Int), .int .i64 ((a + 1 : Nat) : Int), .int .i64 (b : Int), .func (.func 72) #[] #[]] w (SortPost w0 B g n M a b y π E) := by
  have HBW := Lib.hid hb; have HR := Lib.hid hr; have HY := Lib.hid hy; have HS := Lib.hid hs; have HAH := Lib.hid ha
  clear hb hr hy hs ha
  obtain ⟨m, hm⟩ : ∃ m, m = a + 1 := ⟨_, rfl⟩
  rw [← hm]
  have g0 : (m : Int) - (a : Int) = 1 := by omega
  have HMM := Lib.hid hm
  have hmb : m < b := by omega
  have ham : a < m := by omega
  clear hm hab
  go_enter Try.func118, Try.ntmps118
  go_wp2_with fail
  go_loopw [10, 11] (fun s t wr => ∃ i j : Nat, s = .int .i64 (i : Int) ∧ t = .int .i64 (j : Int) ∧ m ≤ i ∧ i ≤ j ∧ j ≤ b ∧ (m < i → ky (y (π (i - 1))) < ky (y (π a))) ∧ (j < b → ¬ ky (y (π j)) < ky (y (π a))) ∧ Below B w0 wr ∧ FR wr g M n y π E) (fun s t _ => (intOf t).toNat - (intOf s).toNat)
  case atStart => exact ⟨m, b, rfl, rfl, by omega, by omega, by omega, fun h => by omega, fun h => by omega, HBW.out, HR.out⟩
  case round =>
    clear HBW HR
    obtain ⟨i, j, rfl, rfl, hmi, hij, hjb, hlo, hhi, hbw, hrow⟩ := hrel
    have hszB := hbw.size
    have hlt := hrow.lt
    have hszB : B ≤ wr.heap.size := by omega
    have BW := Lib.hid hbw; have RW := Lib.hid hrow; have LO := Lib.hid hlo; have HI := Lib.hid hhi
    clear hbw hlo hhi
    by_cases hlt' : i < j
    · have k1 : (i : Int) < (j : Int) := by omega
      obtain ⟨h, hh⟩ : ∃ h, h = (i + j) / 2 := ⟨_, rfl⟩
      have hh1 : i ≤ h ∧ h < j := by omega
      have eh : ((i : Int) + (j : Int)) / 2 = (h : Int) := by omega
      clear hh
      obtain ⟨hh1, hh2⟩ := hh1
      have g1 : (0 : Int) ≤ (h : Int) := by omega
      have g2 : (h : Int) < (n : Int) := by omega
      have g3 : (0 : Int) ≤ (a : Int) := by omega
      have g4 : (a : Int) < (n : Int) := by omega
      have c1 := hrow.cell hM (show h < n by omega)
      have c2 := hrow.cell hM (show a < n by omega)
      obtain ⟨u, hu⟩ : ∃ u, u = y (π h) := ⟨_, rfl⟩
      obtain ⟨v, hv⟩ : ∃ v, v = y (π a) := ⟨_, rfl⟩
      rw [← hu] at c1
      rw [← hv] at c2
      have HU := Lib.hid hu; have HV := Lib.hid hv
      have BC := Lib.hid fun w => bysize_b u v w (by rw [hu]; exact HY.out _) (by rw [hv]; exact HY.out _)
      clear hu hv
      clear hrow
      cases hcc : decide (bsC u v < 0)
      · have KN : Hid (¬ ky (y (π h)) < ky (y (π a))) := Lib.hid (by
          rw [bsC_neg] at hcc
          rw [← HU.out, ← HV.out]; exact of_decide_eq_false hcc)
        have hc2 : ¬ bsC u v < 0 := of_decide_eq_false hcc
        generalize bsC u v = r at *
        go_wp2_with fail
        refine Reg.wp_region_rd (by kernel_rfl) (by kernel_rfl) (fun _ => ?_)
        repeat (refine Reg.rd_op rfl ?_; apply Exists.intro; apply And.intro; (intro w' hb; have hc := Reg.rd_cells hb; clear hb; go_simp; (try go_bits); first | done | (with_reducible exact rfl)); (intro _ a' ha'; simp only [Act.put, List.setIfInBounds_toArray, List.set_cons_zero, List.set_cons_succ] at ha'; subst ha'))
        refine Reg.rd_op rfl ?_; apply Exists.intro; apply And.intro
        · intro w' hb; have hbw := Lib.hid hb; clear hb; go_simp; (try go_bits); exact BC.out _
        intro _ a' ha'; simp only [Act.put, List.setIfInBounds_toArray, List.set_cons_zero, List.set_cons_succ] at ha'; subst ha'
        repeat (refine Reg.rd_op rfl ?_; apply Exists.intro; apply And.intro; (intro w' hb; have hc := Reg.rd_cells hb; clear hb; go_simp; (try go_bits); first | done | (with_reducible exact rfl)); (intro _ a' ha'; simp only [Act.put, List.setIfInBounds_toArray, List.set_cons_zero, List.set_cons_succ] at ha'; subst ha'))
        refine Reg.rd_end (fun wz hb => ?_)
        have BQ := Lib.hid (BW.out.trans (hb.mono hszB))
        have RQ := Lib.hid (RW.out.below hb hlt)
        have hltq : g < wz.heap.size := by have := hb.size; omega
        clear hb
        clear c1 c2
        go_wp2_with fail
        go_roundw
        case rel => exact ⟨i, h, rfl, rfl, by omega, by omega, by omega, LO.out, fun _ => KN.out, BQ.out, RQ.out⟩
        case measure => (simp [intOf] <;> omega)
      · have KL : Hid (ky (y (π h)) < ky (y (π a))) := Lib.hid (by
          rw [bsC_neg] at hcc
          rw [← HU.out, ← HV.out]; exact of_decide_eq_true hcc)
        have hc2 : bsC u v < 0 := of_decide_eq_true hcc
        generalize bsC u v = r at *
        go_wp2_with fail
        refine Reg.wp_region_rd (by kernel_rfl) (by kernel_rfl) (fun _ => ?_)
        repeat (refine Reg.rd_op rfl ?_; apply Exists.intro; apply And.intro; (intro w' hb; have hc := Reg.rd_cells hb; clear hb; go_simp; (try go_bits); first | done | (with_reducible exact rfl)); (intro _ a' ha'; simp only [Act.put, List.setIfInBounds_toArray, List.set_cons_zero, List.set_cons_succ] at ha'; subst ha'))
        refine Reg.rd_op rfl ?_; apply Exists.intro; apply And.intro
        · intro w' hb; have hbw := Lib.hid hb; clear hb; go_simp; (try go_bits); exact BC.out _
        intro _ a' ha'; simp only [Act.put, List.setIfInBounds_toArray, List.set_cons_zero, List.set_cons_succ] at ha'; subst ha'
        repeat (refine Reg.rd_op rfl ?_; apply Exists.intro; apply And.intro; (intro w' hb; have hc := Reg.rd_cells hb; clear hb; go_simp; (try go_bits); first | done | (with_reducible exact rfl)); (intro _ a' ha'; simp only [Act.put, List.setIfInBounds_toArray, List.set_cons_zero, List.set_cons_succ] at ha'; subst ha'))
        refine Reg.rd_end (fun wz hb => ?_)
        have BQ := Lib.hid (BW.out.trans (hb.mono hszB))
        have RQ := Lib.hid (RW.out.below hb hlt)
        have hltq : g < wz.heap.size := by have := hb.size; omega
        clear hb
        clear c1 c2
        go_wp2_with fail
        go_roundw
        case rel => exact ⟨h + 1, j, by go_num, rfl, by omega, by omega, by omega, fun _ => KL.out, HI.out, BQ.out, RQ.out⟩
        case measure => (simp [intOf] <;> omega)
    · obtain rfl : i = j := by omega
      have k1 : ¬ (i : Int) < (i : Int) := by omega
      clear hrow
      have SRT : Hid (Srt (fun i => ky (y i)) (fun p => π (rotP a (a + 1) i p)) a b) := Lib.hid (by
        have hm := HMM.out
        subst hm
        exact merge_one HS.out HAH.out (by omega) hjb LO.out HI.out)
      have hai : a + 1 ≤ i := by have := HMM.out; omega
      clear LO HI HS HAH
      go_wp2_with fail
      go_loopw [13] (fun s wr => ∃ k : Nat, s = .int .i64 (k : Int) ∧ a ≤ k ∧ k + 1 ≤ i ∧ Below B w0 wr ∧ FR wr g M n y (fun p => π (rotP a (a + 1) (k + 1) p)) E) (fun s _ => i - (intOf s).toNat)
      case atStart => exact ⟨a, rfl, by omega, by omega, BW.out, RW.out.congr fun p _ => by rw [rot_up0]⟩
      case round =>
        clear BW RW hszB hlt
        obtain ⟨k, rfl, hak, hki, hbw, hrow⟩ := hrel
        have BW := Lib.hid hbw; have RW := Lib.hid hrow
        have hlt := hrow.lt
        clear hbw
        by_cases hk : k + 1 < i
        · have k2 : (k : Int) < (i : Int) - 1 := by omega
          have k3 : (0 : Int) ≤ (k : Int) := by omega
          have k4 : (k : Int) < (n : Int) := by omega
          have k5 : (0 : Int) ≤ (k : Int) + 1 := by omega
          have k6 : (k : Int) + 1 < (n : Int) := by omega
          have c1 := hrow.cell hM (show k < n by omega)
          have c2 := hrow.cell hM (show k + 1 < n by omega)
          have f1 := hrow.frozen k
          have f2 := hrow.frozen (k + 1)
          have R3 := hrow.swap (i := k) (j := k + 1) (show k < n by omega) (show k + 1 < n by omega)
          generalize y (π (rotP a (a + 1) (k + 1) k)) = u at *
          generalize y (π (rotP a (a + 1) (k + 1) (k + 1))) = v at *
          have R4 : Hid (FR ((wr.setCell ⟨g, k, none⟩ (.float .f64 v)).setCell ⟨g, k + 1, none⟩ (.float .f64 u)) g M n y (fun p => π (rotP a (a + 1) (k + 1 + 1) p)) E) := Lib.hid (R3.congr fun p _ => by rw [rot_up hak])
          have B4 := Lib.hid (((BW.out.setCell (p := ⟨g, k, none⟩) hB (.float .f64 v)).setCell (p := ⟨g, k + 1, none⟩) hB (.float .f64 u)).drew)
          clear R3 hrow
          go_wp2_with fail
          go_region
          clear c1 c2 f1 f2
          go_wp2_with fail
          go_roundw
          case rel => exact ⟨k + 1, by go_num, by omega, by omega, B4.out, R4.out⟩
          case measure => (simp [intOf] <;> omega)
        · have k2 : ¬ (k : Int) < (i : Int) - 1 := by omega
          have hki2 : k + 1 = i := by omega
          have R4 : Hid (FR wr g M n y (fun p => π (rotP a (a + 1) i p)) E) := Lib.hid (by have := RW.out; rwa [hki2] at this)
          have PM := Lib.hid ((rotP_pm (a := a) (m := a + 1) (b := i) (by omega) hai).wide (Nat.le_refl a) hjb)
          clear hki2 hrow
          go_wp2_with fail
          go_end0
          exact ⟨⟨_, rfl⟩, BW.out, _, PM.out, R4.out, SRT.out⟩
set_option maxHeartbeats 2000000 in
theorem merge2_any (w0 : World) (B g n c M a m : Nat) (y π : Nat → Nat) (E : Nat → Value) (w : World) (hB : B ≤ g) (hb : Below B w0 w) (hw0 : B ≤ w0.heap.size) (hr : FR w g M n y π E) (hM : n ≤ M) (hn : n ≤ 65536) (hy : ∀ i, y i < 2 ^ 64) (ham : a + 1 < m) (hbn : m + 1 ≤ n)
    (hs : Srt (fun i => ky (y i)) π a m) (ha : Ahd π a m (m + 1)) :
    Calls Try.prog 118 #[.slice (some ⟨g, 0, none⟩) n c, .int .i64 (a : Int), .int .i64 (m : Int), .int .i64 ((m + 1 : Nat) : Int), .func (.func 72) #[] #[]] w (SortPost w0 B g n M a (m + 1) y π E) := by
  have HBW := Lib.hid hb; have HR := Lib.hid hr; have HY := Lib.hid hy; have HS := Lib.hid hs; have HAH := Lib.hid ha
  clear hb hr hy hs ha
  obtain ⟨b, hb⟩ : ∃ b, b = m + 1 := ⟨_, rfl⟩
  rw [← hb]
  have g0 : ((m : Int) - (a : Int) == 1) = false := by simp; omega
  have g00 : ¬ (m : Int) - (a : Int) = 1 := by omega
  have g01 : (b : Int) - (m : Int) = 1 := by omega
  have HBB := Lib.hid hb
  have hmb : m < b := by omega
  have hmn : m < n := by omega
  clear hb hbn
  go_enter Try.func118, Try.ntmps118
  go_wp2_with fail
  go_loopw [14, 15] (fun s t wr => ∃ i j : Nat, s = .int .i64 (i : Int) ∧ t = .int .i64 (j : Int) ∧ a ≤ i ∧ i ≤ j ∧ j ≤ m ∧ (a < i → ¬ ky (y (π m)) < ky (y (π (i - 1)))) ∧ (j < m → ky (y (π m)) < ky (y (π j))) ∧ Below B w0 wr ∧ FR wr g M n y π E) (fun s t _ => (intOf t).toNat - (intOf s).toNat)
  case atStart => exact ⟨a, m, rfl, rfl, by omega, by omega, by omega, fun h => by omega, fun h => by omega, HBW.out, HR.out⟩
  case round =>
    clear HBW HR
    obtain ⟨i, j, rfl, rfl, hmi, hij, hjb, hlo, hhi, hbw, hrow⟩ := hrel
    have hszB := hbw.size
    have hlt := hrow.lt
    have hszB : B ≤ wr.heap.size := by omega
    have BW := Lib.hid hbw; have RW := Lib.hid hrow; have LO := Lib.hid hlo; have HI := Lib.hid hhi
    clear hbw hlo hhi
    by_cases hlt' : i < j
    · have k1 : (i : Int) < (j : Int) := by omega
      obtain ⟨h, hh⟩ : ∃ h, h = (i + j) / 2 := ⟨_, rfl⟩
      have hh1 : i ≤ h ∧ h < j := by omega
      have eh : ((i : Int) + (j : Int)) / 2 = (h : Int) := by omega
      clear hh
      obtain ⟨hh1, hh2⟩ := hh1
      have g1 : (0 : Int) ≤ (h : Int) := by omega
      have g2 : (h : Int) < (n : Int) := by omega
      have g3 : (0 : Int) ≤ (m : Int) := by omega
      have g4 : (m : Int) < (n : Int) := by omega
      have c1 := hrow.cell hM (show m < n by omega)
      have c2 := hrow.cell hM (show h < n by omega)
      obtain ⟨u, hu⟩ : ∃ u, u = y (π m) := ⟨_, rfl⟩
      obtain ⟨v, hv⟩ : ∃ v, v = y (π h) := ⟨_, rfl⟩
      rw [← hu] at c1
      rw [← hv] at c2
      have HU := Lib.hid hu; have HV := Lib.hid hv
      have BC := Lib.hid fun w => bysize_b u v w (by rw [hu]; exact HY.out _) (by rw [hv]; exact HY.out _)
      clear hu hv
      clear hrow
      cases hcc : decide (bsC u v < 0)
      · have KN : Hid (¬ ky (y (π m)) < ky (y (π h))) := Lib.hid (by
          rw [bsC_neg] at hcc
          rw [← HU.out, ← HV.out]; exact of_decide_eq_false hcc)
        have hc2 : ¬ bsC u v < 0 := of_decide_eq_false hcc
        generalize bsC u v = r at *
        go_wp2_with fail
        refine Reg.wp_region_rd (by kernel_rfl) (by kernel_rfl) (fun _ => ?_)
        repeat (refine Reg.rd_op rfl ?_; apply Exists.intro; apply And.intro; (intro w' hb; have hc := Reg.rd_cells hb; clear hb; go_simp; (try go_bits); first | done | (with_reducible exact rfl)); (intro _ a' ha'; simp only [Act.put, List.setIfInBounds_toArray, List.set_cons_zero, List.set_cons_succ] at ha'; subst ha'))
        refine Reg.rd_op rfl ?_; apply Exists.intro; apply And.intro
        · intro w' hb; have hbw := Lib.hid hb; clear hb; go_simp; (try go_bits); exact BC.out _
        intro _ a' ha'; simp only [Act.put, List.setIfInBounds_toArray, List.set_cons_zero, List.set_cons_succ] at ha'; subst ha'
        repeat (refine Reg.rd_op rfl ?_; apply Exists.intro; apply And.intro; (intro w' hb; have hc := Reg.rd_cells hb; clear hb; go_simp; (try go_bits); first | done | (with_reducible exact rfl)); (intro _ a' ha'; simp only [Act.put, List.setIfInBounds_toArray, List.set_cons_zero, List.set_cons_succ] at ha'; subst ha'))
        refine Reg.rd_end (fun wz hb => ?_)
        have BQ := Lib.hid (BW.out.trans (hb.mono hszB))
        have RQ := Lib.hid (RW.out.below hb hlt)
        have hltq : g < wz.heap.size := by have := hb.size; omega
        clear hb
        clear c1 c2
        go_wp2_with fail
        go_roundw
        case rel => exact ⟨h + 1, j, by go_num, rfl, by omega, by omega, by omega, fun _ => KN.out, HI.out, BQ.out, RQ.out⟩
        case measure => (simp [intOf] <;> omega)
      · have KL : Hid (ky (y (π m)) < ky (y (π h))) := Lib.hid (by
          rw [bsC_neg] at hcc
          rw [← HU.out, ← HV.out]; exact of_decide_eq_true hcc)
        have hc2 : bsC u v < 0 := of_decide_eq_true hcc
        generalize bsC u v = r at *
        go_wp2_with fail
        refine Reg.wp_region_rd (by kernel_rfl) (by kernel_rfl) (fun _ => ?_)
        repeat (refine Reg.rd_op rfl ?_; apply Exists.intro; apply And.intro; (intro w' hb; have hc := Reg.rd_cells hb; clear hb; go_simp; (try go_bits); first | done | (with_reducible exact rfl)); (intro _ a' ha'; simp only [Act.put, List.setIfInBounds_toArray, List.set_cons_zero, List.set_cons_succ] at ha'; subst ha'))
        refine Reg.rd_op rfl ?_; apply Exists.intro; apply And.intro
        · intro w' hb; have hbw := Lib.hid hb; clear hb; go_simp; (try go_bits); exact BC.out _
        intro _ a' ha'; simp only [Act.put, List.setIfInBounds_toArray, List.set_cons_zero, List.set_cons_succ] at ha'; subst ha'
        repeat (refine Reg.rd_op rfl ?_; apply Exists.intro; apply And.intro; (intro w' hb; have hc := Reg.rd_cells hb; clear hb; go_simp; (try go_bits); first | done | (with_reducible exact rfl)); (intro _ a' ha'; simp only [Act.put, List.setIfInBounds_toArray, List.set_cons_zero, List.set_cons_succ] at ha'; subst ha'))
        refine Reg.rd_end (fun wz hb => ?_)
        have BQ := Lib.hid (BW.out.trans (hb.mono hszB))
        have RQ := Lib.hid (RW.out.below hb hlt)
        have hltq : g < wz.heap.size := by have := hb.size; omega
        clear hb
        clear c1 c2
        go_wp2_with fail
        go_roundw
        case rel => exact ⟨i, h, rfl, rfl, by omega, by omega, by omega, LO.out, fun _ => KL.out, BQ.out, RQ.out⟩
        case measure => (simp [intOf] <;> omega)
    · obtain rfl : i = j := by omega
      have k1 : ¬ (i : Int) < (i : Int) := by omega
      clear hrow
      have SRT : Hid (Srt (fun i => ky (y i)) (fun p => π (rotP i m (m + 1) p)) a (m + 1)) := Lib.hid (merge_last HS.out HAH.out hmi hjb LO.out HI.out)
      clear LO HI HS HAH
      go_wp2_with fail
      go_loopw [17] (fun s wr => ∃ k : Nat, s = .int .i64 (k : Int) ∧ i ≤ k ∧ k ≤ m ∧ Below B w0 wr ∧ FR wr g M n y (fun p => π (rotP k m (m + 1) p)) E) (fun s _ => (intOf s).toNat)
      case atStart => exact ⟨m, rfl, by omega, by omega, BW.out, RW.out.congr fun p _ => by rw [rot_down0]⟩
      case round =>
        clear BW RW hszB hlt
        obtain ⟨k, rfl, hak, hki, hbw, hrow⟩ := hrel
        have BW := Lib.hid hbw; have RW := Lib.hid hrow
        have hlt := hrow.lt
        clear hbw
        by_cases hk : i < k
        · obtain ⟨l, rfl⟩ : ∃ l, k = l + 1 := ⟨k - 1, by omega⟩
          have k2 : (i : Int) < (l : Int) + 1 := by omega
          have k3 : (0 : Int) ≤ (l : Int) := by omega
          have k4 : (l : Int) < (n : Int) := by omega
          have k5 : (0 : Int) ≤ (l : Int) + 1 := by omega
          have k6 : (l : Int) + 1 < (n : Int) := by omega
          have c1 := hrow.cell hM (show l + 1 < n by omega)
          have c2 := hrow.cell hM (show l < n by omega)
          have f1 := hrow.frozen (l + 1)
          have f2 := hrow.frozen l
          have R3 := hrow.swap (i := l + 1) (j := l) (show l + 1 < n by omega) (show l < n by omega)
          generalize y (π (rotP (l + 1) m (m + 1) (l + 1))) = u at *
          generalize y (π (rotP (l + 1) m (m + 1) l)) = v at *
          have R4 : Hid (FR ((wr.setCell ⟨g, l + 1, none⟩ (.float .f64 v)).setCell ⟨g, l, none⟩ (.float .f64 u)) g M n y (fun p => π (rotP l m (m + 1) p)) E) := Lib.hid (R3.congr fun p _ => by rw [rot_down hki])
          have B4 := Lib.hid (((BW.out.setCell (p := ⟨g, l + 1, none⟩) hB (.float .f64 v)).setCell (p := ⟨g, l, none⟩) hB (.float .f64 u)).drew)
          clear R3 hrow
          go_wp2_with fail
          go_region
          clear c1 c2 f1 f2
          go_wp2_with fail
          go_roundw
          case rel => exact ⟨l, by go_num, by omega, by omega, B4.out, R4.out⟩
          case measure => (simp [intOf] <;> omega)
        · obtain rfl : k = i := by omega
          have k2 : ¬ (k : Int) < (k : Int) := by omega
          have PM := Lib.hid ((rotP_pm (a := k) (m := m) (b := m + 1) hki (by omega)).wide (a' := a) (b' := m + 1) hmi (Nat.le_refl _))
          clear hrow
          go_wp2_with fail
          go_end0
          have e := HBB.out
          subst e
          exact ⟨⟨_, rfl⟩, BW.out, _, PM.out, RW.out, SRT.out⟩
end Go.Proofs.Ytjakjnmfndfehaa
