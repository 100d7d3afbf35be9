/- The library's SymMerge: two ordered parts merged in place. Condition: lists of at most 65536. -/
import Derived.Test.YtjakjnmfndfehaaSj
import Derived.Deep.DeepCutAuto
namespace Go.Proofs.Ytjakjnmfndfehaa
open Go.RowKit Go.Pst
set_option maxRecDepth 20000
set_option linter.unusedSimpArgs false
set_option linter.unusedVariables false
theorem rot_idle {a m b p : Nat} (h1 : a ≤ m) (h2 : m ≤ b) (h : ¬ (a < m ∧ m < b)) : rotP a m b p = p := by
  unfold rotP; (repeat' split) <;> omega
/-- Between which two places the first half ends. -/
structure LoHi (a b m mid lo hi : Nat) : Prop where
  l1 : a ≤ lo
  l2 : lo ≤ hi
  l3 : hi ≤ m
  l4 : hi ≤ mid
  l5 : mid + m ≤ lo + b
  l6 : lo = a ∨ lo + b = mid + m
  l7 : hi = m ∨ hi = mid
set_option maxHeartbeats 16000000 in
theorem merge3_any (w0 : World) (B g n c M a m b : Nat) (y π : Nat → Nat) (E : Nat → Value) (w : World) (hB : B ≤ g) (hb : Below B w0 w) (hw0 : B ≤ w0.heap.size) (hr : FR w g M n y π E) (hM : n ≤ M) (hn : n ≤ 65536) (hy : ∀ i, y i < 2 ^ 64) (ham : a + 1 < m) (hmb : m + 1 < b) (hbn : b ≤ n)
    (hs : Srt (fun i => ky (y i)) π a m) (ht : Srt (fun i => ky (y i)) π m b) (ha : Ahd π a m b)
    (ih : ∀ (a' m' b' : Nat) (π' : Nat → Nat) (w' : World), b' - a' < b - a → a' < m' → m' < b' → b' ≤ n → Below B w0 w' → FR w' g M n y π' E → Srt (fun i => ky (y i)) π' a' m' → Srt (fun i => ky (y i)) π' m' b' → Ahd π' a' m' b' →
      Calls Try.prog 118 #[.slice (some ⟨g, 0, none⟩) n c, .int .i64 (a' : Int), .int .i64 (m' : Int), .int .i64 (b' : Int), .func (.func 72) #[] #[]] w' (SortPost w0 B g n M a' b' y π' E)) :
    Calls Try.prog 118 #[.slice (some ⟨g, 0, none⟩) n c, .int .i64 (a : Int), .int .i64 (m : Int), .int .i64 (b : Int), .func (.func 72) #[] #[]] w (SortPost w0 B g n M a b y π E) := by
  have HBW := Lib.hid hb; have HR := Lib.hid hr; have HY := Lib.hid hy; have HS := Lib.hid hs; have HT := Lib.hid ht; have HAH := Lib.hid ha; have IH := Lib.hid ih
  clear hb hr hy hs ha ht ih
  have g0 : ((m : Int) - (a : Int) == 1) = false := by simp; omega
  have g00 : ¬ (m : Int) - (a : Int) = 1 := by omega
  have g01 : ((b : Int) - (m : Int) == 1) = false := by simp; omega
  have g02 : ¬ (b : Int) - (m : Int) = 1 := by omega
  obtain ⟨mid, hmid⟩ : ∃ mid, mid = (a + b) / 2 := ⟨_, rfl⟩
  have emid : ((a : Int) + (b : Int)) / 2 = (mid : Int) := by omega
  obtain ⟨N, hN⟩ : ∃ N, N = mid + m := ⟨_, rfl⟩
  have eN : (mid : Int) + (m : Int) = (N : Int) := by omega
  obtain ⟨P, hP⟩ : ∃ P, P + 1 = N := ⟨N - 1, by omega⟩
  have eP : (N : Int) - 1 = (P : Int) := by omega
  have hm1 : a < mid ∧ mid < b ∧ a + b ≤ 2 * mid + 1 ∧ 2 * mid ≤ a + b := by omega
  have HN := Lib.hid hN; have HP := Lib.hid hP; have HM1 := Lib.hid hm1
  have hNl : N ≤ 131072 := by omega
  have hPl : P ≤ 131072 := by omega
  clear hmid hN hP hm1
  go_enter Try.func118, Try.ntmps118
  go_upto_if 140 with fail
  go_cut [20, 21] (fun s t wx => (∃ lo hi : Nat, s = .int .i64 (lo : Int) ∧ t = .int .i64 (hi : Int) ∧ LoHi a b m mid lo hi) ∧ wx = w)
  case first =>
    have hm1 := HM1.out; have hN := HN.out
    rcases Nat.lt_or_ge mid m with hq | hq
    · have p1 : (mid : Int) < (m : Int) := by omega
      obtain ⟨lo, hlo⟩ : ∃ lo, lo + b = N := ⟨N - b, by omega⟩
      have elo : (N : Int) - (b : Int) = (lo : Int) := by omega
      have HF : Hid (LoHi a b m mid lo mid) := Lib.hid (by constructor <;> omega)
      clear hm1 hN hlo hq
      go_wp2_with fail
      go_meet
      case rel => exact ⟨⟨lo, mid, rfl, rfl, HF.out⟩, rfl⟩
    · have p1 : ¬ (mid : Int) < (m : Int) := by omega
      have HF : Hid (LoHi a b m mid a m) := Lib.hid (by constructor <;> omega)
      clear hm1 hN hq
      go_wp2_with fail
      go_meet
      case rel => exact ⟨⟨a, m, rfl, rfl, HF.out⟩, rfl⟩
  case rest =>
    obtain ⟨⟨lo, hi, rfl, rfl, ⟨hl1, hl2, hl3, hl4, hl5, hl6, hl7⟩⟩, hwc⟩ := hcut
    obtain rfl := hwc.symm
    have HL := Lib.hid (And.intro hl5 (And.intro hl6 hl7))
    clear hl5 hl6 hl7
    go_wp2_with fail
    go_loopw [20, 21] (fun s t wr => ∃ i j : Nat, s = .int .i64 (i : Int) ∧ t = .int .i64 (j : Int) ∧ lo ≤ i ∧ i ≤ j ∧ j ≤ hi ∧ (lo < i → ¬ ky (y (π (N - i))) < ky (y (π (i - 1)))) ∧ (j < hi → ky (y (π (P - j))) < ky (y (π j))) ∧ Below B w0 wr ∧ FR wr g M n y π E) (fun s t _ => (intOf t).toNat - (intOf s).toNat)
    case atStart => exact ⟨lo, hi, rfl, rfl, by omega, by omega, by omega, fun h => by omega, fun h => by omega, HBW.out, HR.out⟩
    case round =>
      clear HBW HR
      obtain ⟨i, j, rfl, rfl, hmi, hij, hjb, hlo, hhi, hbw, hrow⟩ := hrel
      have hszB := hbw.size
      have hlt := hrow.lt
      have hszB : B ≤ wr.heap.size := by omega
      have BW := Lib.hid hbw; have RW := Lib.hid hrow; have LO := Lib.hid hlo; have HI := Lib.hid hhi
      clear hbw hlo hhi
      by_cases hlt' : i < j
      ·
        as_aux_lemma =>
          have k1 : (i : Int) < (j : Int) := by omega
          obtain ⟨h, hh⟩ : ∃ h, h = (i + j) / 2 := ⟨_, rfl⟩
          have hh1 : i ≤ h ∧ h < j := by omega
          have eh : ((i : Int) + (j : Int)) / 2 = (h : Int) := by omega
          clear hh
          obtain ⟨hh1, hh2⟩ := hh1
          have hN := HN.out; have hP := HP.out; have hL := HL.out
          obtain ⟨d, hd⟩ : ∃ d, d + h = P := ⟨P - h, by omega⟩
          have ed : (P : Int) - (h : Int) = (d : Int) := by omega
          have hdn : d < n := by omega
          have HD : Hid (d = P - h ∧ d = N - (h + 1)) := Lib.hid (by omega)
          clear hN hP hL hd
          have g1 : (0 : Int) ≤ (h : Int) := by omega
          have g2 : (h : Int) < (n : Int) := by omega
          have g3 : (0 : Int) ≤ (d : Int) := by omega
          have g4 : (d : Int) < (n : Int) := by omega
          have c1 := hrow.cell hM (show d < n by omega)
          have c2 := hrow.cell hM (show h < n by omega)
          obtain ⟨u, hu⟩ : ∃ u, u = y (π d) := ⟨_, rfl⟩
          obtain ⟨v, hv⟩ : ∃ v, v = y (π h) := ⟨_, rfl⟩
          rw [← hu] at c1
          rw [← hv] at c2
          have HU := Lib.hid hu; have HV := Lib.hid hv
          have BC := Lib.hid fun w => bysize_b u v w (by rw [hu]; exact HY.out _) (by rw [hv]; exact HY.out _)
          clear hu hv
          clear hrow
          cases hcc : decide (bsC u v < 0)
          · have KN : Hid (¬ ky (y (π d)) < ky (y (π h))) := Lib.hid (by
              rw [bsC_neg] at hcc
              rw [← HU.out, ← HV.out]; exact of_decide_eq_false hcc)
            have hc2 : ¬ bsC u v < 0 := of_decide_eq_false hcc
            generalize bsC u v = r at *
            go_wp2_with fail
            refine Reg.wp_region_rd (by kernel_rfl) (by kernel_rfl) (fun _ => ?_)
            repeat (refine Reg.rd_op rfl ?_; apply Exists.intro; apply And.intro; (intro w' hb; have hc := Reg.rd_cells hb; clear hb; go_simp; (try go_bits); first | done | (with_reducible exact rfl)); (intro _ a' ha'; simp only [Act.put, List.setIfInBounds_toArray, List.set_cons_zero, List.set_cons_succ] at ha'; subst ha'))
            refine Reg.rd_op rfl ?_; apply Exists.intro; apply And.intro
            · intro w' hb; have hbw := Lib.hid hb; clear hb; go_simp; (try go_bits); exact BC.out _
            intro _ a' ha'; simp only [Act.put, List.setIfInBounds_toArray, List.set_cons_zero, List.set_cons_succ] at ha'; subst ha'
            repeat (refine Reg.rd_op rfl ?_; apply Exists.intro; apply And.intro; (intro w' hb; have hc := Reg.rd_cells hb; clear hb; go_simp; (try go_bits); first | done | (with_reducible exact rfl)); (intro _ a' ha'; simp only [Act.put, List.setIfInBounds_toArray, List.set_cons_zero, List.set_cons_succ] at ha'; subst ha'))
            refine Reg.rd_end (fun wz hb => ?_)
            have BQ := Lib.hid (BW.out.trans (hb.mono hszB))
            have RQ := Lib.hid (RW.out.below hb hlt)
            have hltq : g < wz.heap.size := by have := hb.size; omega
            clear hb
            clear c1 c2
            go_wp2_with fail
            go_roundw
            case rel => exact ⟨h + 1, j, by go_num, rfl, by omega, by omega, by omega, fun _ => by rw [← HD.out.2]; exact KN.out, HI.out, BQ.out, RQ.out⟩
            case measure => (simp [intOf] <;> omega)
          · have KL : Hid (ky (y (π d)) < ky (y (π h))) := Lib.hid (by
              rw [bsC_neg] at hcc
              rw [← HU.out, ← HV.out]; exact of_decide_eq_true hcc)
            have hc2 : bsC u v < 0 := of_decide_eq_true hcc
            generalize bsC u v = r at *
            go_wp2_with fail
            refine Reg.wp_region_rd (by kernel_rfl) (by kernel_rfl) (fun _ => ?_)
            repeat (refine Reg.rd_op rfl ?_; apply Exists.intro; apply And.intro; (intro w' hb; have hc := Reg.rd_cells hb; clear hb; go_simp; (try go_bits); first | done | (with_reducible exact rfl)); (intro _ a' ha'; simp only [Act.put, List.setIfInBounds_toArray, List.set_cons_zero, List.set_cons_succ] at ha'; subst ha'))
            refine Reg.rd_op rfl ?_; apply Exists.intro; apply And.intro
            · intro w' hb; have hbw := Lib.hid hb; clear hb; go_simp; (try go_bits); exact BC.out _
            intro _ a' ha'; simp only [Act.put, List.setIfInBounds_toArray, List.set_cons_zero, List.set_cons_succ] at ha'; subst ha'
            repeat (refine Reg.rd_op rfl ?_; apply Exists.intro; apply And.intro; (intro w' hb; have hc := Reg.rd_cells hb; clear hb; go_simp; (try go_bits); first | done | (with_reducible exact rfl)); (intro _ a' ha'; simp only [Act.put, List.setIfInBounds_toArray, List.set_cons_zero, List.set_cons_succ] at ha'; subst ha'))
            refine Reg.rd_end (fun wz hb => ?_)
            have BQ := Lib.hid (BW.out.trans (hb.mono hszB))
            have RQ := Lib.hid (RW.out.below hb hlt)
            have hltq : g < wz.heap.size := by have := hb.size; omega
            clear hb
            clear c1 c2
            go_wp2_with fail
            go_roundw
            case rel => exact ⟨i, h, rfl, rfl, by omega, by omega, by omega, LO.out, fun _ => by rw [← HD.out.1]; exact KL.out, BQ.out, RQ.out⟩
            case measure => (simp [intOf] <;> omega)
      ·
        as_aux_lemma =>
          obtain rfl : i = j := by omega
          have k1 : ¬ (i : Int) < (i : Int) := by omega
          clear hrow
          have hN := HN.out; have hP := HP.out; have hL := HL.out; have hm1 := HM1.out
          obtain ⟨s, rfl⟩ : ∃ s : Nat, s = i := ⟨_, rfl⟩
          obtain ⟨e, he⟩ : ∃ e, e + s = N := ⟨N - s, by omega⟩
          have ee : (N : Int) - (s : Int) = (e : Int) := by omega
          have hbd : a ≤ s ∧ s ≤ m ∧ m ≤ e ∧ e ≤ b ∧ s ≤ mid ∧ mid ≤ e ∧ mid = s + (e - m) := by omega
          have STEP := Lib.hid (merge_step HS.out HT.out HAH.out hbd.1 hbd.2.1 hbd.2.2.1 hbd.2.2.2.1 hbd.2.2.2.2.2.2 (fun x1 x2 => by
              have h1 := LO.out (by omega)
              rw [show N - s = e by omega] at h1
              exact lt3_not h1 (HAH.out _ _ (by omega) (by omega) (by omega) (by omega))) (fun x1 x2 => by
              have h1 := HI.out (by omega)
              rw [show P - s = e - 1 by omega] at h1
              exact lt3_of h1))
          have PM0 := Lib.hid ((rotP_pm hbd.2.1 hbd.2.2.1).wide hbd.1 hbd.2.2.2.1)
          obtain ⟨b1, b2, b3, b4, b5, b6, b7⟩ := hbd
          have HB7 := Lib.hid b7
          obtain ⟨hm1, hm2, hm3, hm4⟩ := hm1
          clear hN hP hL LO HI HS HT HAH he b7 hm3 hm4 hlt'
          go_upto_region 39 with fail
          go_cut [185] (fun t wx => t = .bool (decide (s < m ∧ m < e)) ∧ wx = wr)
          case first =>
            as_aux_lemma =>
              by_cases q1 : s < m
              · have p1 : (s : Int) < (m : Int) := by omega
                have p1' : decide ((s : Int) < (m : Int)) = true := decide_eq_true p1
                by_cases q2 : m < e
                · have p2 : (m : Int) < (e : Int) := by omega
                  have QQ : Hid (decide (s < m ∧ m < e) = true) := Lib.hid (decide_eq_true ⟨q1, q2⟩)
                  clear q1 q2
                  go_wp2_with fail
                  go_meet
                  case rel => exact ⟨by rw [QQ.out], rfl⟩
                · have p2 : ¬ (m : Int) < (e : Int) := by omega
                  have QQ : Hid (decide (s < m ∧ m < e) = false) := Lib.hid (decide_eq_false fun h => q2 h.2)
                  clear q1 q2
                  go_wp2_with fail
                  go_meet
                  case rel => exact ⟨by rw [QQ.out], rfl⟩
              · have p1' : decide ((s : Int) < (m : Int)) = false := decide_eq_false (by omega)
                have p1'' : ¬ (s : Int) < (m : Int) := by omega
                have QQ : Hid (decide (s < m ∧ m < e) = false) := Lib.hid (decide_eq_false fun h => q1 h.1)
                clear q1
                go_wp2_with fail
                go_meet
                case rel => exact ⟨by rw [QQ.out], rfl⟩
          case rest =>
            obtain ⟨rfl, hwc⟩ := hcut
            obtain rfl := hwc.symm
            go_upto_if 185 with fail
            go_cut [20] (fun t wx => t = .int .i64 (s : Int) ∧ Below B w0 wx ∧ FR wx g M n y (fun p => π (rotP s m e p)) E)
            case first =>
              as_aux_lemma =>
                by_cases q : s < m ∧ m < e
                · rw [decide_eq_true q]
                  obtain ⟨q1, q2⟩ := q
                  go_wp2_with fail
                  refine (rotate_any w0 B g n c M s m e y π E _ _ hB BW.out RW.out hM hn q1 q2 (by omega)).mono ?_
                  rintro en w2 ⟨⟨v, rfl⟩, hb2, hr2⟩
                  have B2 := Lib.hid hb2; have R2 := Lib.hid hr2
                  clear hb2 hr2
                  go_wp2_with fail
                  go_meet
                  case rel => exact ⟨rfl, B2.out, R2.out⟩
                · rw [decide_eq_false q]
                  have R2 : Hid (FR wr g M n y (fun p => π (rotP s m e p)) E) := Lib.hid (RW.out.congr fun p _ => by rw [rot_idle b2 b3 q])
                  clear q
                  go_wp2_with fail
                  go_meet
                  case rel => exact ⟨rfl, BW.out, R2.out⟩
            case rest =>
              as_aux_lemma =>
                clear BW RW hszB hlt
                obtain ⟨rfl, hbw, hrow⟩ := hcut
                have BW := Lib.hid hbw; have RW := Lib.hid hrow
                clear hbw hrow
                obtain ⟨π1, hπ⟩ : ∃ π1, π1 = fun p => π (rotP s m e p) := ⟨_, rfl⟩
                have ST1 : Hid ((Srt (fun i => ky (y i)) π1 a s ∧ Srt (fun i => ky (y i)) π1 s mid ∧ Ahd π1 a s mid) ∧ (Srt (fun i => ky (y i)) π1 mid e ∧ Srt (fun i => ky (y i)) π1 e b ∧ Ahd π1 mid e b) ∧ ∀ p q, a ≤ p → p < mid → mid ≤ q → q < b → lt3 (fun i => ky (y i)) (π1 p) (π1 q)) := Lib.hid (by rw [hπ]; exact STEP.out)
                rw [← hπ] at RW
                have HPI := Lib.hid hπ
                clear hπ STEP
                go_upto_region 41 with fail
                go_cut [199] (fun t wx => t = .bool (decide (a < s ∧ s < mid)) ∧ wx = wc)
                case first =>
                  as_aux_lemma =>
                    by_cases q1 : a < s
                    · have p1 : (a : Int) < (s : Int) := by omega
                      have p1' : decide ((a : Int) < (s : Int)) = true := decide_eq_true p1
                      by_cases q2 : s < mid
                      · have p2 : (s : Int) < (mid : Int) := by omega
                        have QQ : Hid (decide (a < s ∧ s < mid) = true) := Lib.hid (decide_eq_true ⟨q1, q2⟩)
                        clear q1 q2
                        go_wp2_with fail
                        go_meet
                        case rel => exact ⟨by rw [QQ.out], rfl⟩
                      · have p2 : ¬ (s : Int) < (mid : Int) := by omega
                        have QQ : Hid (decide (a < s ∧ s < mid) = false) := Lib.hid (decide_eq_false fun h => q2 h.2)
                        clear q1 q2
                        go_wp2_with fail
                        go_meet
                        case rel => exact ⟨by rw [QQ.out], rfl⟩
                    · have p1' : decide ((a : Int) < (s : Int)) = false := decide_eq_false (by omega)
                      have p1'' : ¬ (a : Int) < (s : Int) := by omega
                      have QQ : Hid (decide (a < s ∧ s < mid) = false) := Lib.hid (decide_eq_false fun h => q1 h.1)
                      clear q1
                      go_wp2_with fail
                      go_meet
                      case rel => exact ⟨by rw [QQ.out], rfl⟩
                case rest =>
                  obtain ⟨rfl, hwc⟩ := hcut
                  obtain rfl := hwc.symm
                  go_upto_if 199 with fail
                  go_cut [20] (fun t wx => t = .int .i64 (s : Int) ∧ Below B w0 wx ∧ ∃ σ, Pm a mid σ ∧ FR wx g M n y (fun p => π1 (σ p)) E ∧ Srt (fun i => ky (y i)) (fun p => π1 (σ p)) a mid)
                  case first =>
                    as_aux_lemma =>
                      by_cases q : a < s ∧ s < mid
                      · rw [decide_eq_true q]
                        obtain ⟨q1, q2⟩ := q
                        go_wp2_with fail
                        refine (IH.out a s mid π1 _ (by omega) q1 q2 (by omega) BW.out RW.out ST1.out.1.1 ST1.out.1.2.1 ST1.out.1.2.2).mono ?_
                        rintro en w2 ⟨⟨v, rfl⟩, hb2, σ, hp2, hr2, hs2⟩
                        have B2 := Lib.hid hb2; have R2 := Lib.hid hr2; have P2 := Lib.hid hp2; have S2 := Lib.hid hs2
                        clear hb2 hr2 hp2 hs2
                        go_wp2_with fail
                        go_meet
                        case rel => exact ⟨rfl, B2.out, σ, P2.out, R2.out, S2.out⟩
                      · rw [decide_eq_false q]
                        have S2 : Hid (Srt (fun i => ky (y i)) π1 a mid) := Lib.hid (by
                          rcases Nat.eq_or_lt_of_le b1 with c | c
                          · rw [c]; exact ST1.out.1.2.1
                          · have : s = mid := by omega
                            rw [← this]; exact ST1.out.1.1)
                        clear q
                        go_wp2_with fail
                        go_meet
                        case rel => exact ⟨rfl, BW.out, fun p => p, Pm.same _ _, RW.out, S2.out⟩
                  case rest =>
                    as_aux_lemma =>
                      clear BW RW
                      obtain ⟨rfl, hbw, σ, hpm, hrow, hsr⟩ := hcut
                      have BW := Lib.hid hbw; have RW := Lib.hid hrow; have P1 := Lib.hid hpm; have S1 := Lib.hid hsr
                      clear hbw hrow hpm hsr
                      go_upto_region 43 with fail
                      go_cut [213] (fun t wx => t = .bool (decide (mid < e ∧ e < b)) ∧ wx = wc)
                      case first =>
                        as_aux_lemma =>
                          by_cases q1 : mid < e
                          · have p1 : (mid : Int) < (e : Int) := by omega
                            have p1' : decide ((mid : Int) < (e : Int)) = true := decide_eq_true p1
                            by_cases q2 : e < b
                            · have p2 : (e : Int) < (b : Int) := by omega
                              have QQ : Hid (decide (mid < e ∧ e < b) = true) := Lib.hid (decide_eq_true ⟨q1, q2⟩)
                              clear q1 q2
                              go_wp2_with fail
                              go_meet
                              case rel => exact ⟨by rw [QQ.out], rfl⟩
                            · have p2 : ¬ (e : Int) < (b : Int) := by omega
                              have QQ : Hid (decide (mid < e ∧ e < b) = false) := Lib.hid (decide_eq_false fun h => q2 h.2)
                              clear q1 q2
                              go_wp2_with fail
                              go_meet
                              case rel => exact ⟨by rw [QQ.out], rfl⟩
                          · have p1' : decide ((mid : Int) < (e : Int)) = false := decide_eq_false (by omega)
                            have p1'' : ¬ (mid : Int) < (e : Int) := by omega
                            have QQ : Hid (decide (mid < e ∧ e < b) = false) := Lib.hid (decide_eq_false fun h => q1 h.1)
                            clear q1
                            go_wp2_with fail
                            go_meet
                            case rel => exact ⟨by rw [QQ.out], rfl⟩
                      case rest =>
                        obtain ⟨rfl, hwc⟩ := hcut
                        obtain rfl := hwc.symm
                        have hid : ∀ p, mid ≤ p → σ p = p := fun p hp => P1.out.out (.inr hp)
                        have T1 : Srt (fun i => ky (y i)) (fun p => π1 (σ p)) mid e := ST1.out.2.1.1.congr fun p x1 x2 => by simp only [hid p (by omega)]
                        have T2 : Srt (fun i => ky (y i)) (fun p => π1 (σ p)) e b := ST1.out.2.1.2.1.congr fun p x1 x2 => by simp only [hid p (by omega)]
                        have T3 : Ahd (fun p => π1 (σ p)) mid e b := ST1.out.2.1.2.2.congr fun p x1 x2 => by simp only [hid p (by omega)]
                        by_cases q : mid < e ∧ e < b
                        · rw [decide_eq_true q]
                          obtain ⟨q1, q2⟩ := q
                          have HT1 := Lib.hid T1; have HT2 := Lib.hid T2; have HT3 := Lib.hid T3
                          clear T1 T2 T3 hid
                          go_wp2_with fail
                          refine (IH.out mid e b (fun p => π1 (σ p)) _ (by omega) q1 q2 (by omega) BW.out RW.out HT1.out HT2.out HT3.out).mono ?_
                          rintro en w2 ⟨⟨v, rfl⟩, hb2, τ, hp2, hr2, hs2⟩
                          have B2 := Lib.hid hb2; have R2 := Lib.hid hr2; have P2 := Lib.hid hp2; have S2 := Lib.hid hs2
                          clear hb2 hr2 hp2 hs2
                          go_wp2_with fail
                          go_end0
                          have hπ := HPI.out
                          subst hπ
                          exact ⟨⟨_, rfl⟩, B2.out, _, (PM0.out.comp (P1.out.wide (Nat.le_refl _) (by omega))).comp (P2.out.wide (by omega) (Nat.le_refl _)), R2.out, merge_glue (π := fun p => π (rotP s m e p)) (s := σ) (t := τ) P1.out P2.out S1.out S2.out ST1.out.2.2⟩
                        · rw [decide_eq_false q]
                          have S2 : Hid (Srt (fun i => ky (y i)) (fun p => π1 (σ p)) mid b) := Lib.hid (by
                            rcases Nat.eq_or_lt_of_le b6 with c | c
                            · rw [c]; exact T2
                            · have : e = b := by omega
                              rw [← this]; exact T1)
                          clear q T1 T2 T3 hid
                          go_wp2_with fail
                          go_end0
                          have hπ := HPI.out
                          subst hπ
                          exact ⟨⟨_, rfl⟩, BW.out, _, PM0.out.comp (P1.out.wide (Nat.le_refl _) (by omega)), RW.out, merge_glue (π := fun p => π (rotP s m e p)) (s := σ) (t := fun p => p) P1.out (Pm.same _ _) S1.out S2.out ST1.out.2.2⟩
end Go.Proofs.Ytjakjnmfndfehaa
