/- How many pieces two names have in common: the document. Condition: names of at most 2^45 code points, of 32 bits. · How many pieces two names have in common: both texts, at whatever size. Condition: names of at most 2^45 code points, of 32 bits. -/
import Derived.Test.YtkhdemaanakbeaaDv
import Derived.Test.YtkhdemaanakbeaaJf
namespace Go.Proofs.Ytkhdemaanakbeaa
open Go.RowKit Go.Pst
set_option maxRecDepth 20000
set_option linter.unusedSimpArgs false
set_option linter.unusedVariables false
attribute [local go_sem] run_fmul run_fquo
set_option maxHeartbeats 1000000 in
theorem requal_any (A B : Option Addr) (n c d : Nat) (fa fb : Nat → Int) (r : Bool) (w : World) (hA : NameAt w w.heap.size A n fa) (hB : NameAt w w.heap.size B n fb) (hn : n ≤ 35184372088832) (hr : r = true ↔ ∀ q, q < n → fa q = fb q) :
    Calls Try.prog 58 #[.slice A n c, .slice B n d] w fun en w' => en = .returned (.bool r) ∧ Below w.heap.size w w' := by
  have HA := Lib.hid hA; have HB := Lib.hid hB; have HR := Lib.hid hr
  clear hA hB hr
  go_enter Try.func58, Try.ntmps58
  go_wp2_with fail
  go_loopw [5] (fun t wr => ∃ k : Nat, t = .int .i64 (k : Int) ∧ k ≤ n ∧ (∀ q, q < k → fa q = fb q) ∧ Below w.heap.size w wr) (fun t _ => n - (intOf t).toNat)
  case atStart => exact ⟨0, rfl, by omega, fun q hq => by omega, Below.refl _ _⟩
  case round =>
    obtain ⟨k, rfl, hk, hno, hbw⟩ := hrel
    have BW := Lib.hid hbw; have NO := Lib.hid hno
    have hsz := hbw.size
    clear hbw hno
    by_cases hkn : k < n
    · have h3 : (k : Int) < (n : Int) := by omega
      have h00 : (0 : Int) ≤ (k : Int) := by omega
      obtain ⟨ga, oa, rfl, hga, hca⟩ := (HA.out.below BW.out (Nat.le_refl _)) (by omega)
      obtain ⟨gb, ob, rfl, hgb, hcb⟩ := (HB.out.below BW.out (Nat.le_refl _)) (by omega)
      have qa := hca k hkn
      have qb := hcb k hkn
      have qga : ga < wr.heap.size := by omega
      have qgb : gb < wr.heap.size := by omega
      clear hca hcb
      cases hfe : (fa k == fb k)
      · have HF : Hid (r = false) := Lib.hid (by
          cases r with
          | false => rfl
          | true => have := (HR.out.1 rfl) k hkn; rw [this] at hfe; simp at hfe)
        clear HR
        go_wp2_with fail
        refine Reg.wp_region_rd (by kernel_rfl) (by kernel_rfl) (fun _ => ?_)
        repeat (refine Reg.rd_op rfl ?_; apply Exists.intro; apply And.intro; (intro w' hb; have hc := Reg.rd_cells hb; clear hb; go_simp; (try go_bits); first | done | (with_reducible exact rfl)); (intro _ a' ha'; simp only [Act.put, List.setIfInBounds_toArray, List.set_cons_zero, List.set_cons_succ] at ha'; subst ha'))
        refine Reg.rd_end (fun wz hb => ?_)
        have BW2 := Lib.hid (BW.out.trans (hb.mono hsz))
        clear hb
        go_wp2_with fail
        go_ret
        exact ⟨by rw [HF.out]; rfl, BW2.out⟩
      · have NO2 : Hid (∀ q, q < k + 1 → fa q = fb q) := Lib.hid (fun q hq => by
          by_cases e : q = k
          · rw [e]; exact eq_of_beq hfe
          · exact NO.out q (by omega))
        go_wp2_with fail
        refine Reg.wp_region_rd (by kernel_rfl) (by kernel_rfl) (fun _ => ?_)
        repeat (refine Reg.rd_op rfl ?_; apply Exists.intro; apply And.intro; (intro w' hb; have hc := Reg.rd_cells hb; clear hb; go_simp; (try go_bits); first | done | (with_reducible exact rfl)); (intro _ a' ha'; simp only [Act.put, List.setIfInBounds_toArray, List.set_cons_zero, List.set_cons_succ] at ha'; subst ha'))
        refine Reg.rd_end (fun wz hb => ?_)
        have BW2 := Lib.hid (BW.out.trans (hb.mono hsz))
        clear hb
        go_wp2_with fail
        go_roundw
        case rel => exact ⟨k + 1, by go_num, by omega, NO2.out, BW2.out⟩
        case measure => (simp [intOf] <;> omega)
    · obtain rfl : k = n := by omega
      have h3 : ¬ (k : Int) < (k : Int) := by omega
      have HF : Hid (r = true) := Lib.hid (HR.out.2 NO.out)
      clear HR
      go_wp2_with fail
      go_ret
      exact ⟨by rw [HF.out]; rfl, BW.out⟩

set_option maxHeartbeats 3000000 in
theorem rdice_core (A B : Option Addr) (n m c d size G : Nat) (fa fb : Nat → Int) (w : World) (hA : NameAt w w.heap.size A n fa) (hB : NameAt w w.heap.size B m fb) (hn : n ≤ 35184372088832) (hm : m ≤ 35184372088832)
    (hc : n ≤ c) (hd : m ≤ d) (hs1 : 1 ≤ size) (hs2 : size ≤ 16) (hra : Runes32 n fa) (hrb : Runes32 m fb) (hG : diG n m size fa fb = G) (h0 : (n + 1 - size) + (m + 1 - size) ≠ 0) :
    Calls Try.prog 42 #[.slice A n c, .slice B m d, .int .i64 size] w (SharePost (arV .quo (fl (2 * G)) (fl ((n + 1 - size) + (m + 1 - size)))) 0 w) := by
  obtain ⟨k0, hk0, hz0, hz1, hz2⟩ := info_parts infoBool
  have K0 := Lib.hid hk0; have K1 := Lib.hid hz0; have K2 := Lib.hid hz1; have K3 := Lib.hid hz2
  clear hk0 hz0 hz1 hz2
  have HA := Lib.hid hA; have HB := Lib.hid hB; have HG := Lib.hid hG; have HRA := Lib.hid hra; have HRB := Lib.hid hrb
  clear hA hB hG hra hrb
  have s1 : ¬ (size : Int) < 1 := by omega
  have s2 : ¬ 16 < (size : Int) := by omega
  obtain ⟨M, hM⟩ : ∃ M, M = n + 1 - size := ⟨_, rfl⟩
  obtain ⟨N, hN⟩ : ∃ N, N = m + 1 - size := ⟨_, rfl⟩
  have HM := Lib.hid hM; have HN := Lib.hid hN
  rw [← hM, ← hN] at h0 ⊢
  have hMl : M ≤ 35184372088833 := by omega
  have hNl : N ≤ 35184372088833 := by omega
  clear hM hN
  go_enter Try.func42, Try.ntmps42
  go_upto_if 32 with fail
  go_cut [8] (fun s wx => s = .int .i64 (M : Int) ∧ wx = w)
  case first =>
    have hw := HM.out
    rcases Nat.lt_or_ge (n + 1) size with hnm | hnm
    · have g1 : (n : Int) - (size : Int) + 1 < 0 := by omega
      go_wp2_with fail
      all_goals
        go_meet
        case rel => exact ⟨congrArg (Value.int .i64) (by omega), rfl⟩
    · have g1 : ¬ (n : Int) - (size : Int) + 1 < 0 := by omega
      go_wp2_with fail
      all_goals
        go_meet
        case rel => exact ⟨congrArg (Value.int .i64) (by omega), rfl⟩
  case rest =>
   obtain ⟨rfl, hwc⟩ := hcut
   obtain rfl := hwc.symm
   have s3 : (0 : Int) ≤ (M : Int) := by omega
   go_upto_if 34 with fail
   go_cut [9] (fun s wx => s = .int .i64 (N : Int) ∧ wx = w)
   case first =>
    have hw := HN.out
    rcases Nat.lt_or_ge (m + 1) size with hnm | hnm
    · have g1 : (m : Int) - (size : Int) + 1 < 0 := by omega
      go_wp2_with fail
      all_goals
        go_meet
        case rel => exact ⟨congrArg (Value.int .i64) (by omega), rfl⟩
    · have g1 : ¬ (m : Int) - (size : Int) + 1 < 0 := by omega
      go_wp2_with fail
      all_goals
        go_meet
        case rel => exact ⟨congrArg (Value.int .i64) (by omega), rfl⟩
   case rest =>
    obtain ⟨rfl, hwc⟩ := hcut
    obtain rfl := hwc.symm
    have e1 : ((M : Int) + (N : Int) == 0) = false := by simp; omega
    have e2 : ¬ (M : Int) + (N : Int) = 0 := by omega
    go_wp2_with fail
    go_loopw [10, 11] (fun dv t wr => ∃ (k : Nat) (v : Value), v = dv ∧ t = .int .i64 (k : Int) ∧ k ≤ N ∧ wr.ownsRow w.heap.size 4 1 v k (List.replicate k (.bool false)) ∧ Below w.heap.size w wr) (fun _ t _ => N - (intOf t).toNat)
    case atStart => exact ⟨0, _, rfl, rfl, by omega, World.ownsRow_made _ #[] 0 (Nat.le_refl _) (by simp [maxLen]) rfl, (Below.refl _ _).alloc (Nat.le_refl _) _⟩
    case round =>
      obtain ⟨k, v6, rfl, rfl, hk, hown, hbw⟩ := hrel
      have OT := Lib.hid hown; have BW := Lib.hid hbw
      have hsz := hbw.size
      clear hown hbw
      by_cases hkm : k < N
      · have h3 : (k : Int) < (N : Int) := by omega
        go_wp2_with (at_builtin
                     refine wpList_append_lies _ rfl _ _ _ rfl w.heap.size 4 k0 _ 1 1 Try.underlying109 K0.out K1.out K2.out K3.out rfl (by omega) v6 k (List.replicate k (.bool false)) rfl (OT.out.alloc _) ⟨wr.heap.size, 0, none⟩ 1 1 [.bool false] rfl rfl (World.news_of_block (heap_alloc_new _ _)) (by simp [Value.oneCell']) (by omega) (by unfold maxLen; omega) (by omega) (by simp; omega) (wr.heap.size + 1) (by simp) ?_
                     intro g' cap' w7 hown7 hgrow7 hat7 hlt7
                     have O7 := Lib.hid hown7; have G7 := Lib.hid hgrow7
                     clear hown7 hgrow7 hat7)
        have hol := OT.out.lt
        have BW2 := Lib.hid ((BW.out.alloc hsz (.cells #[.bool false] 4)).grown G7.out (by simp; omega) (fun q e => (hol q e).1))
        rw [← List.replicate_succ'] at O7
        go_wp2_with fail
        go_roundw
        case rel => exact ⟨k + 1, _, rfl, by go_num, by omega, O7.out, BW2.out⟩
        case measure => (simp [intOf] <;> omega)
      · obtain rfl : k = N := by omega
        have h3 : ¬ (k : Int) < (k : Int) := by omega
        by_cases hN0 : k = 0
        · have HG0 : Hid (G = 0) := Lib.hid (by
            rw [← HG.out]
            show dC _ _ (m + 1 - size) (n + 1 - size) = 0
            rw [← HN.out, hN0]
            have : ∀ i, dC (pcK fa size) (pcK fb size) 0 i = 0 := fun i => by
              induction i with
              | zero => rfl
              | succ i ih => rw [dC_none (by rfl), ih]
            exact this _)
          have hk0 : ¬ 0 < k := by omega
          have hk00 : ¬ (0 : Int) < (k : Int) := by omega
          clear OT
          go_wp2_with fail
          go_loopw [12, 13] (fun lx t wq => ∃ (i : Nat), lx = .int .i64 0 ∧ t = .int .i64 (i : Int) ∧ i ≤ M ∧ Below w.heap.size w wq) (fun _ t _ => M - (intOf t).toNat)
          case atStart => exact ⟨0, rfl, rfl, by omega, BW.out⟩
          case round =>
            clear BW
            obtain ⟨i, rfl, rfl, hi, hbw⟩ := hrel
            have BW := Lib.hid hbw
            clear hbw
            by_cases hin : i < M
            · have h4 : (i : Int) < (M : Int) := by omega
              go_wp2_with fail
              go_loopw [12, 14] (fun lx s wq => lx = .int .i64 0 ∧ s = .int .i64 0 ∧ Below w.heap.size w wq) (fun _ s _ => 0)
              case atStart => exact ⟨rfl, rfl, BW.out⟩
              case round =>
                obtain ⟨rfl, rfl, hbq⟩ := hrel
                have BQ := Lib.hid hbq
                clear hbq
                go_wp2_with fail
                go_roundw
                case rel => exact ⟨i + 1, rfl, by go_num, by omega, BQ.out⟩
                case measure => (simp [intOf] <;> omega)
            · obtain rfl : i = M := by omega
              have h4 : ¬ (i : Int) < (i : Int) := by omega
              have f1 : floatOfInt .f64 0 = fl (2 * 0) := floatInt_fl 0
              have f2 : floatOfInt .f64 (i : Int) = fl (i + k) := by rw [hN0]; exact floatInt_fl _
              have HK : Hid (fl (2 * G) = fl (2 * 0)) := Lib.hid (by rw [HG0.out])
              generalize fl (2 * 0) = K at *
              generalize fl (i + k) = N2 at *
              go_wp2_with fail
              go_ret2
              refine ⟨_, rfl, fun h => absurd rfl h, fun _ => by rw [HK.out]; exact cn_arU _ _ _ _, ?_⟩
              repeat refine wIf_below _ _ ?_
              exact BW.out
        · obtain ⟨g, cap, rfl, hg1, hg2⟩ := OT.out.form (by omega)
          obtain ⟨E, hcap, hrow0⟩ := rowIs_of_own OT.out
          have RW0 : Hid (wr.rowIs g 4 cap (fun q => if q < k then .bool (dT (pcK fa size) (pcK fb size) k 0 q) else E q)) := Lib.hid hrow0
          obtain ⟨w2, rfl⟩ : ∃ w2 : World, w2 = wr := ⟨_, rfl⟩
          have hcap2 : (k : Int) ≤ (cap : Int) := by omega
          clear hrow0 OT
          obtain ⟨N, rfl⟩ : ∃ N : Nat, N = k := ⟨_, rfl⟩
          go_wp2_with fail
          go_loopw [12, 13] (fun lx t wq => ∃ (i : Nat), lx = .int .i64 (dC (pcK fa size) (pcK fb size) N i : Nat) ∧ t = .int .i64 (i : Int) ∧ i ≤ M ∧ wq.rowIs g 4 cap (fun q => if q < N then .bool (dT (pcK fa size) (pcK fb size) N i q) else E q) ∧ Below w.heap.size w wq ∧ w2.heap.size ≤ wq.heap.size) (fun _ t _ => M - (intOf t).toNat)
          case atStart => exact ⟨0, rfl, rfl, by omega, RW0.out, BW.out, Nat.le_refl _⟩
          case round =>
            clear BW RW0
            obtain ⟨i, rfl, rfl, hi, hrow, hbw, hs2⟩ := hrel
            have RW := Lib.hid hrow; have BW := Lib.hid hbw
            have hsz3 := hbw.size
            have hlt := hrow.lt
            have hcl := dC_le (kA := pcK fa size) (kB := pcK fb size) (N := N) i
            clear hrow hbw
            by_cases hin : i < M
            · have h4 : (i : Int) < (M : Int) := by omega
              have h00 : (0 : Int) ≤ (i : Int) := by omega
              have hMe := HM.out
              have hNe := HN.out
              have hia : i + size ≤ n := by omega
              obtain ⟨C, hC⟩ : ∃ C : Nat, C = dC (pcK fa size) (pcK fb size) N i := ⟨_, rfl⟩
              rw [← hC] at hcl ⊢
              have HCC := Lib.hid hC
              clear hC
              have h41 : (i : Int) + (size : Int) ≤ (c : Int) := by omega
              have h42 : (i : Int) ≤ (i : Int) + (size : Int) := by omega
              have h43 : (0 : Int) ≤ (i : Int) + (size : Int) := by omega
              have hci : ¬ c = i := by omega
              clear hMe hNe
              obtain ⟨ga, oa, rfl, hga, hca⟩ := (HA.out.below BW.out (Nat.le_refl _)) (by omega)
              have CA := Lib.hid hca
              clear hca
              obtain ⟨wo, rfl⟩ : ∃ wo : World, wo = wr := ⟨_, rfl⟩
              go_wp2_with fail
              go_loopw [12, 14] (fun lx s wq => ∃ j : Nat, lx = .int .i64 (C : Int) ∧ s = .int .i64 (j : Int) ∧ j ≤ N ∧ (∀ q, q < j → dP (pcK fa size) (pcK fb size) (dT (pcK fa size) (pcK fb size) N i) i q = false) ∧ Below wo.heap.size wo wq) (fun _ s _ => N - (intOf s).toNat)
              case atStart => exact ⟨0, rfl, rfl, by omega, fun q hq => by omega, Below.refl _ _⟩
              case round =>
                obtain ⟨j, rfl, rfl, hjb, hno, hbq⟩ := hrel
                have NO := Lib.hid hno; have BQ := Lib.hid hbq
                have hszq := hbq.size
                clear hno hbq
                by_cases hjm : j < N
                · have k1 : (j : Int) < (N : Int) := by omega
                  have k0' : (0 : Int) ≤ (j : Int) := by omega
                  have k2' : (j : Int) < (cap : Int) := by omega
                  have hNe := HN.out
                  have hjb2 : j + size ≤ m := by omega
                  have h51 : (j : Int) + (size : Int) ≤ (d : Int) := by omega
                  have h52 : (j : Int) ≤ (j : Int) + (size : Int) := by omega
                  have h53 : (0 : Int) ≤ (j : Int) + (size : Int) := by omega
                  have hdj : ¬ d = j := by omega
                  clear hNe
                  have qg2 : g < wr.heap.size := by omega
                  have qt : wr.cell? ⟨g, j, none⟩ = some (.bool (dT (pcK fa size) (pcK fb size) N i j)) := (BQ.out.cell (p := ⟨g, j, none⟩) hlt).trans ((RW.out.cell (show j < cap by omega)).trans (by rw [if_pos hjm]))
                  obtain ⟨gb, ob, rfl, hgb, hcb⟩ := (HB.out.below BW.out (Nat.le_refl _)) (by omega)
                  have CB := Lib.hid hcb
                  clear hcb
                  cases htk : dT (pcK fa size) (pcK fb size) N i j
                  · rw [htk] at qt
                    have HE : Hid (∀ L1 L2 c1 c2 w', L1 = size → L2 = size → Below wo.heap.size wo w' → Calls Try.prog 58 #[.slice (some ⟨ga, oa + i, none⟩) L1 c1, .slice (some ⟨gb, ob + j, none⟩) L2 c2] w' fun en w'' => en = .returned (.bool (decide (pcK fa size i = pcK fb size j))) ∧ Below w'.heap.size w' w'') := Lib.hid (fun L1 L2 c1 c2 w' e1 e2 hb' => by
                      subst e1
                      rw [e2]
                      refine requal_any _ _ L1 _ _ (fun q => fa (i + q)) (fun q => fb (j + q)) _ w' (fun _ => ⟨ga, oa + i, rfl, by have := hb'.size; omega, fun q hq => ?_⟩) (fun _ => ⟨gb, ob + j, rfl, by have := hb'.size; omega, fun q hq => ?_⟩) (by omega) ?_
                      · rw [Nat.add_assoc]
                        exact (hb'.cell (p := ⟨ga, oa + (i + q), none⟩) (show ga < wo.heap.size by omega)).trans (CA.out _ (by omega))
                      · rw [Nat.add_assoc]
                        exact (hb'.cell (p := ⟨gb, ob + (j + q), none⟩) (show gb < wo.heap.size by omega)).trans (CB.out _ (by omega))
                      · rw [decide_eq_true_iff]
                        exact pcK_iff HRA.out HRB.out (by omega) (by omega))
                    cases hfe : decide (pcK fa size i = pcK fb size j)
                    · have NJ : Hid (dP (pcK fa size) (pcK fb size) (dT (pcK fa size) (pcK fb size) N i) i j = false) := Lib.hid (by unfold dP; rw [hfe]; simp)
                      rw [hfe] at HE
                      clear htk hfe
                      go_wp2_with fail
                      refine Reg.wp_region_rd (by kernel_rfl) (by kernel_rfl) (fun _ => ?_)
                      repeat (refine Reg.rd_op rfl ?_; apply Exists.intro; apply And.intro; (intro w' hb; have hc := Reg.rd_cells hb; clear hb; go_simp; (try go_bits); first | done | (with_reducible exact rfl)); (intro _ a' ha'; simp only [Act.put, List.setIfInBounds_toArray, List.set_cons_zero, List.set_cons_succ] at ha'; subst ha'))
                      refine Reg.rd_op rfl ?_; apply Exists.intro; apply And.intro
                      · intro w' hb; have hbw := Lib.hid hb; clear hb; go_simp; (try go_bits); exact HE.out _ _ _ _ _ (by omega) (by omega) (BQ.out.trans (hbw.out.mono hszq))
                      intro _ a' ha'; simp only [Act.put, List.setIfInBounds_toArray, List.set_cons_zero, List.set_cons_succ] at ha'; subst ha'
                      repeat (refine Reg.rd_op rfl ?_; apply Exists.intro; apply And.intro; (intro w' hb; have hc := Reg.rd_cells hb; clear hb; go_simp; (try go_bits); first | done | (with_reducible exact rfl)); (intro _ a' ha'; simp only [Act.put, List.setIfInBounds_toArray, List.set_cons_zero, List.set_cons_succ] at ha'; subst ha'))
                      refine Reg.rd_end (fun wz hb => ?_)
                      have NO2 : Hid (∀ q, q < j + 1 → dP (pcK fa size) (pcK fb size) (dT (pcK fa size) (pcK fb size) N i) i q = false) := Lib.hid (fun q hq => by
                        by_cases e : q = j
                        · rw [e]; exact NJ.out
                        · exact NO.out q (by omega))
                      have BQ2 := Lib.hid (BQ.out.trans (hb.mono hszq))
                      clear hb
                      go_wp2_with fail
                      go_roundw
                      case rel => exact ⟨j + 1, rfl, by go_num, by omega, NO2.out, BQ2.out⟩
                      case measure => (simp [intOf] <;> omega)
                    · have FS : Hid (first (dP (pcK fa size) (pcK fb size) (dT (pcK fa size) (pcK fb size) N i) i) N = some j) := Lib.hid (first_some (by unfold dP; rw [htk, hfe]; rfl) NO.out hjm)
                      rw [hfe] at HE
                      have HC2 : Hid (dC (pcK fa size) (pcK fb size) N (i + 1) = C + 1) := Lib.hid (by rw [dC_some FS.out, HCC.out])
                      clear htk hfe
                      go_wp2_with fail
                      refine Reg.wp_region_rd (by kernel_rfl) (by kernel_rfl) (fun _ => ?_)
                      repeat (refine Reg.rd_op rfl ?_; apply Exists.intro; apply And.intro; (intro w' hb; have hc := Reg.rd_cells hb; clear hb; go_simp; (try go_bits); first | done | (with_reducible exact rfl)); (intro _ a' ha'; simp only [Act.put, List.setIfInBounds_toArray, List.set_cons_zero, List.set_cons_succ] at ha'; subst ha'))
                      refine Reg.rd_op rfl ?_; apply Exists.intro; apply And.intro
                      · intro w' hb; have hbw := Lib.hid hb; clear hb; go_simp; (try go_bits); exact HE.out _ _ _ _ _ (by omega) (by omega) (BQ.out.trans (hbw.out.mono hszq))
                      intro _ a' ha'; simp only [Act.put, List.setIfInBounds_toArray, List.set_cons_zero, List.set_cons_succ] at ha'; subst ha'
                      repeat (refine Reg.rd_op rfl ?_; apply Exists.intro; apply And.intro; (intro w' hb; have hc := Reg.rd_cells hb; clear hb; go_simp; (try go_bits); first | done | (with_reducible exact rfl)); (intro _ a' ha'; simp only [Act.put, List.setIfInBounds_toArray, List.set_cons_zero, List.set_cons_succ] at ha'; subst ha'))
                      refine Reg.rd_end (fun wz hb => ?_)
                      have BQ2 := Lib.hid (BQ.out.trans (hb.mono hszq))
                      have hwz := hb.size
                      clear hb qt
                      have RWz := Lib.hid (RW.out.of_block (BQ2.out.block g hlt))
                      have fr := RWz.out.frozen j
                      have qt3 := RWz.out.cell (show j < cap by omega)
                      rw [if_pos hjm] at qt3
                      have qgz : g < wz.heap.size := by omega
                      have RW2 : Hid ((wz.setCell ⟨g, j, none⟩ (.bool true)).rowIs g 4 cap (fun q => if q < N then .bool (dT (pcK fa size) (pcK fb size) N (i + 1) q) else E q)) := Lib.hid (by
                        refine (RWz.out.set j (.bool true)).congr fun q hq => ?_
                        rw [dT_some FS.out]
                        by_cases e : q = j
                        · rw [if_pos e, e, if_pos hjm]; simp
                        · rw [if_neg e]; have : (q == j) = false := by simpa using e
                          simp only [this, Bool.false_or])
                      have BW2 := Lib.hid ((BW.out.trans (BQ2.out.mono hsz3)).setCell (p := ⟨g, j, none⟩) hg1 (.bool true))
                      have SZ2 : w2.heap.size ≤ (wz.setCell ⟨g, j, none⟩ (.bool true)).heap.size := by simp; omega
                      go_wp2_with fail
                      go_roundw
                      case rel => exact ⟨i + 1, by rw [HC2.out]; go_num, by go_num, by omega, RW2.out, BW2.out, SZ2⟩
                      case measure => (simp [intOf] <;> omega)
                  · rw [htk] at qt
                    have NJ : Hid (dP (pcK fa size) (pcK fb size) (dT (pcK fa size) (pcK fb size) N i) i j = false) := Lib.hid (by unfold dP; rw [htk]; simp)
                    clear htk
                    go_wp2_with fail
                    refine Reg.wp_region_rd (by kernel_rfl) (by kernel_rfl) (fun _ => ?_)
                    repeat (refine Reg.rd_op rfl ?_; apply Exists.intro; apply And.intro; (intro w' hb; have hc := Reg.rd_cells hb; clear hb; go_simp; (try go_bits); first | done | (with_reducible exact rfl)); (intro _ a' ha'; simp only [Act.put, List.setIfInBounds_toArray, List.set_cons_zero, List.set_cons_succ] at ha'; subst ha'))
                    repeat (refine Reg.rd_skip rfl ?_; intro a' ha'; simp only [Act.put, List.setIfInBounds_toArray, List.set_cons_zero, List.set_cons_succ] at ha'; subst ha')
                    repeat (refine Reg.rd_op rfl ?_; apply Exists.intro; apply And.intro; (intro w' hb; have hc := Reg.rd_cells hb; clear hb; go_simp; (try go_bits); first | done | (with_reducible exact rfl)); (intro _ a' ha'; simp only [Act.put, List.setIfInBounds_toArray, List.set_cons_zero, List.set_cons_succ] at ha'; subst ha'))
                    refine Reg.rd_end (fun wz hb => ?_)
                    have NO2 : Hid (∀ q, q < j + 1 → dP (pcK fa size) (pcK fb size) (dT (pcK fa size) (pcK fb size) N i) i q = false) := Lib.hid (fun q hq => by
                      by_cases e : q = j
                      · rw [e]; exact NJ.out
                      · exact NO.out q (by omega))
                    have BQ2 := Lib.hid (BQ.out.trans (hb.mono hszq))
                    clear hb
                    go_wp2_with fail
                    go_roundw
                    case rel => exact ⟨j + 1, rfl, by go_num, by omega, NO2.out, BQ2.out⟩
                    case measure => (simp [intOf] <;> omega)
                · have k1 : ¬ (j : Int) < (N : Int) := by omega
                  have FN : Hid (first (dP (pcK fa size) (pcK fb size) (dT (pcK fa size) (pcK fb size) N i) i) N = none) := Lib.hid (first_none fun q hq => NO.out q (by omega))
                  have RW2 : Hid (wr.rowIs g 4 cap (fun q => if q < N then .bool (dT (pcK fa size) (pcK fb size) N (i + 1) q) else E q)) := Lib.hid (by rw [dT_none FN.out]; exact RW.out.of_block (BQ.out.block g hlt))
                  have BW2 := Lib.hid (BW.out.trans (BQ.out.mono hsz3))
                  have HC2 : Hid (dC (pcK fa size) (pcK fb size) N (i + 1) = C) := Lib.hid (by rw [dC_none FN.out, HCC.out])
                  go_wp2_with fail
                  go_roundw
                  case rel => exact ⟨i + 1, by rw [HC2.out], by go_num, by omega, RW2.out, BW2.out, by omega⟩
                  case measure => (simp [intOf] <;> omega)
            · obtain rfl : i = M := by omega
              have h4 : ¬ (i : Int) < (i : Int) := by omega
              have HGG : Hid (dC (pcK fa size) (pcK fb size) N i = G) := Lib.hid (by rw [← HG.out]; unfold diG; rw [← HM.out, ← HN.out])
              rw [HGG.out] at hcl ⊢
              have f1 := floatInt_fl (2 * G)
              have f2 := floatInt_fl (i + N)
              rw [Int.natCast_add] at f2
              rw [Int.natCast_mul, show ((2 : Nat) : Int) = 2 from rfl] at f1
              generalize fl (2 * G) = K at *
              generalize fl (i + N) = N2 at *
              go_wp2_with fail
              go_ret2
              refine ⟨_, rfl, fun h => absurd rfl h, fun _ => cn_arU _ _ _ _, ?_⟩
              repeat refine wIf_below _ _ ?_
              exact BW.out
end Go.Proofs.Ytkhdemaanakbeaa

namespace Go.Proofs.Ytkhdemaanakbeaa
open Go.RowKit Go.Pst
set_option maxRecDepth 20000
set_option linter.unusedSimpArgs false
set_option linter.unusedVariables false
attribute [local go_sem] run_fmul run_fquo
def diE (size : Int) : Int := if diBad size then 1 else 0
set_option maxHeartbeats 1000000 in
theorem dice_bad (A B : Option Addr) (n m c d : Nat) (size : Int) (t : Nat) (w : World) (hs : diBad size = true) :
    Calls Try.prog 37 #[.slice A n c, .slice B m d, .int .i64 size] w (SharePost t 1 w) := by
  unfold diBad at hs
  by_cases h1 : size < 1
  · clear hs
    go_enter Try.func37, Try.ntmps37
    go_wp2_with fail
    go_ret2
    exact ⟨0, rfl, fun _ => rfl, fun h => absurd h (by decide), Below.refl _ _⟩
  · by_cases h2 : 16 < size
    · clear hs
      have h3 : decide (size < 1) = false := decide_eq_false h1
      have h4 : decide (16 < size) = true := decide_eq_true h2
      go_enter Try.func37, Try.ntmps37
      go_wp2_with fail
      go_ret2
      exact ⟨0, rfl, fun _ => rfl, fun h => absurd h (by decide), Below.refl _ _⟩
    · rw [decide_eq_false h1, decide_eq_false h2] at hs
      cases hs
set_option maxHeartbeats 1000000 in
theorem rdice_bad (A B : Option Addr) (n m c d : Nat) (size : Int) (t : Nat) (w : World) (hs : diBad size = true) :
    Calls Try.prog 42 #[.slice A n c, .slice B m d, .int .i64 size] w (SharePost t 1 w) := by
  unfold diBad at hs
  by_cases h1 : size < 1
  · clear hs
    go_enter Try.func42, Try.ntmps42
    go_wp2_with fail
    go_ret2
    exact ⟨0, rfl, fun _ => rfl, fun h => absurd h (by decide), Below.refl _ _⟩
  · by_cases h2 : 16 < size
    · clear hs
      have h3 : decide (size < 1) = false := decide_eq_false h1
      have h4 : decide (16 < size) = true := decide_eq_true h2
      go_enter Try.func42, Try.ntmps42
      go_wp2_with fail
      go_ret2
      exact ⟨0, rfl, fun _ => rfl, fun h => absurd h (by decide), Below.refl _ _⟩
    · rw [decide_eq_false h1, decide_eq_false h2] at hs
      cases hs
set_option maxHeartbeats 3000000 in
theorem dice_none (A B : Option Addr) (n m c d size : Nat) (kA kB : Nat → List UInt8) (w : World) (hs1 : 1 ≤ size) (hs2 : size ≤ 16) (hn : n < size) (hm : m < size)
    (hA : Calls Try.prog 57 #[.slice A n c, .int .i64 size] w (PiePost kA (n + 1 - size) w))
    (hB : ∀ w', Below w.heap.size w w' → Calls Try.prog 57 #[.slice B m d, .int .i64 size] w' (PiePost kB (m + 1 - size) w')) :
    Calls Try.prog 37 #[.slice A n c, .slice B m d, .int .i64 size] w (SharePost ONE 0 w) := by
  have HA := Lib.hid hA; have HB := Lib.hid hB
  clear hA hB
  have s1 : ¬ (size : Int) < 1 := by omega
  have s2 : ¬ 16 < (size : Int) := by omega
  go_enter Try.func37, Try.ntmps37
  go_wp2_with fail
  refine HA.out.mono ?_
  rintro en w1 ⟨D1, rfl, hm1, hsy1, hb1⟩
  have B1 := Lib.hid hb1
  have hz1 := hb1.size
  clear hm1 hsy1 hb1
  go_wp2_with fail
  refine (HB.out _ B1.out).mono ?_
  rintro en w2 ⟨D2, rfl, hm2, hsy2, hb2⟩
  have B2 := Lib.hid (B1.out.trans (hb2.mono hz1))
  clear hm2 hsy2 hb2
  go_upto_region 4 with fail
  go_cut [10] (fun s wx => s = .int .i64 0 ∧ wx = w2)
  case first =>
    go_wp2_with fail
    all_goals
      go_meet
      case rel => exact ⟨congrArg (Value.int .i64) (by omega), rfl⟩
  case rest =>
    obtain ⟨rfl, hwc⟩ := hcut
    obtain rfl := hwc.symm
    go_wp2_with fail
    go_ret2
    exact ⟨ONE, rfl, fun h => absurd rfl h, fun _ => by decide, B2.out⟩
set_option maxHeartbeats 3000000 in
theorem rdice_none (A B : Option Addr) (n m c d size : Nat) (w : World) (hs1 : 1 ≤ size) (hs2 : size ≤ 16) (hn : n < size) (hm : m < size) :
    Calls Try.prog 42 #[.slice A n c, .slice B m d, .int .i64 size] w (SharePost ONE 0 w) := by
  have s1 : ¬ (size : Int) < 1 := by omega
  have s2 : ¬ 16 < (size : Int) := by omega
  go_enter Try.func42, Try.ntmps42
  go_upto_if 32 with fail
  go_cut [8] (fun s wx => s = .int .i64 0 ∧ wx = w)
  case first =>
    rcases Nat.lt_or_ge (n + 1) size with hnm | hnm
    · have g1 : (n : Int) - (size : Int) + 1 < 0 := by omega
      go_wp2_with fail
      all_goals
        go_meet
        case rel => exact ⟨congrArg (Value.int .i64) (by omega), rfl⟩
    · have g1 : ¬ (n : Int) - (size : Int) + 1 < 0 := by omega
      go_wp2_with fail
      all_goals
        go_meet
        case rel => exact ⟨congrArg (Value.int .i64) (by omega), rfl⟩
  case rest =>
   obtain ⟨rfl, hwc⟩ := hcut
   obtain rfl := hwc.symm
   go_upto_if 34 with fail
   go_cut [9] (fun s wx => s = .int .i64 0 ∧ wx = w)
   case first =>
    rcases Nat.lt_or_ge (m + 1) size with hnm | hnm
    · have g1 : (m : Int) - (size : Int) + 1 < 0 := by omega
      go_wp2_with fail
      all_goals
        go_meet
        case rel => exact ⟨congrArg (Value.int .i64) (by omega), rfl⟩
    · have g1 : ¬ (m : Int) - (size : Int) + 1 < 0 := by omega
      go_wp2_with fail
      all_goals
        go_meet
        case rel => exact ⟨congrArg (Value.int .i64) (by omega), rfl⟩
   case rest =>
    obtain ⟨rfl, hwc⟩ := hcut
    obtain rfl := hwc.symm
    go_wp2_with fail
    go_ret2
    exact ⟨ONE, rfl, fun h => absurd rfl h, fun _ => by decide, Below.refl _ _⟩
theorem size_good {size : Int} (h : diBad size = false) : size = (size.toNat : Int) ∧ 1 ≤ size.toNat ∧ size.toNat ≤ 16 := by
  unfold diBad at h
  simp only [Bool.or_eq_false_iff, decide_eq_false_iff_not] at h
  omega
/-- The share itself, the size as it is given. -/
def diW (n m : Nat) (size : Int) (fa fb : Nat → Int) : Nat := diV n m size.toNat fa fb
theorem dice_any (A B : Option Addr) (n m c d : Nat) (size : Int) (fa fb : Nat → Int) (w : World) (hA : NameAt w w.heap.size A n fa) (hB : NameAt w w.heap.size B m fb) (hn : n ≤ 35184372088832) (hm : m ≤ 35184372088832) (hc : n ≤ c) (hd : m ≤ d) :
    Calls Try.prog 37 #[.slice A n c, .slice B m d, .int .i64 size] w (SharePost (diW n m size fa fb) (diE size) w) := by
  cases hb : diBad size
  · obtain ⟨h1, h2, h3⟩ := size_good hb
    have e : diE size = 0 := by unfold diE; rw [hb]; rfl
    rw [e]
    unfold diW
    generalize size.toNat = s at *
    subst h1
    have hpA := pieces_any A n c s fa w hA hn hc h2 h3
    have hpB : ∀ w', Below w.heap.size w w' → Calls Try.prog 57 #[.slice B m d, .int .i64 s] w' (PiePost (pcK fb s) (m + 1 - s) w') := fun w' hb' =>
      pieces_any B m d s fb w' ((hB.below hb' (Nat.le_refl _)).more hb'.size) hm hd h2 h3
    by_cases h0 : (n + 1 - s) + (m + 1 - s) = 0
    · unfold diV; rw [if_pos h0]
      exact dice_none A B n m c d s _ _ w h2 h3 (by omega) (by omega) hpA hpB
    · unfold diV; rw [if_neg h0]
      have hl := diG_le n m s fa fb
      rw [← two_fl (show diG n m s fa fb < 2 ^ 52 by omega)]
      exact dice_core A B n m c d s _ _ _ w hn hm h2 h3 (by unfold diG; rw [dC_gL]) h0 hpA hpB
  · have e : diE size = 1 := by unfold diE; rw [hb]; rfl
    rw [e]
    exact dice_bad A B n m c d size _ w hb
theorem rdice_any (A B : Option Addr) (n m c d : Nat) (size : Int) (fa fb : Nat → Int) (w : World) (hA : NameAt w w.heap.size A n fa) (hB : NameAt w w.heap.size B m fb) (hn : n ≤ 35184372088832) (hm : m ≤ 35184372088832) (hc : n ≤ c) (hd : m ≤ d)
    (hra : Runes32 n fa) (hrb : Runes32 m fb) :
    Calls Try.prog 42 #[.slice A n c, .slice B m d, .int .i64 size] w (SharePost (diW n m size fa fb) (diE size) w) := by
  cases hb : diBad size
  · obtain ⟨h1, h2, h3⟩ := size_good hb
    have e : diE size = 0 := by unfold diE; rw [hb]; rfl
    rw [e]
    unfold diW
    generalize size.toNat = s at *
    subst h1
    by_cases h0 : (n + 1 - s) + (m + 1 - s) = 0
    · unfold diV; rw [if_pos h0]
      exact rdice_none A B n m c d s w h2 h3 (by omega) (by omega)
    · unfold diV; rw [if_neg h0]
      exact rdice_core A B n m c d s _ fa fb w hA hB hn hm hc hd h2 h3 hra hrb rfl h0
  · have e : diE size = 1 := by unfold diE; rw [hb]; rfl
    rw [e]
    exact rdice_bad A B n m c d size _ w hb
end Go.Proofs.Ytkhdemaanakbeaa
