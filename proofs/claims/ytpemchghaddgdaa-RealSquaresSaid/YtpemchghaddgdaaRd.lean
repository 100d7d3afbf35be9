/- A float out of its parts: what the reference gives. Condition: sizes of at most 52 and 11 bits. -/
import Derived.Test.YtpemchghaddgdaaRc
import Derived.Deep.DeepCutAuto
import Derived.Deep.CutBlock
namespace Go.Proofs.Ytpemchghaddgdaa
open Go.RowKit Go.Pst
set_option maxRecDepth 20000
set_option linter.unusedSimpArgs false
set_option linter.unusedVariables false

theorem rparts_any (f T Bs e b : Nat) (w : World) (hf1 : 1 ≤ f) (hf : f ≤ 52) (he1 : 1 ≤ e) (he : e ≤ 11) (hb : b < 2 ^ 64) (hT : T = 2 ^ e - 1) (hBs : Bs = (2 ^ e - 1) / 2) :
    Calls Try.prog 31 #[.int .u64 b, .agg #[.int .i64 f, .int .i64 T, .int .i64 Bs]] w fun en w' => en = .returned (partsN f e b).val ∧ Below w.heap.size w w' := by
  subst hT hBs
  have a0 : (2 : Int) ^ f = ((2 ^ f : Nat) : Int) := by simp
  have a1 : 1 ≤ 2 ^ f := Nat.one_le_two_pow
  have a2 : 2 ^ f ≤ 2 ^ 52 := Nat.pow_le_pow_right (by omega) hf
  have a3' : 2 ^ e ≤ 2 ^ 11 := Nat.pow_le_pow_right (by omega) he
  have a3'' : 1 ≤ 2 ^ e := Nat.one_le_two_pow
  have a3 : 2 ^ e - 1 ≤ 2047 := by omega
  have hs := fun w => rsign_any f (2 ^ e - 1) ((2 ^ e - 1) / 2) e w hf he (by omega)
  have hbb : (2 ^ e - 1) / 2 ≤ 2047 := by omega
  have hex : b / 2 ^ f % 2 ^ e < 2 ^ e := Nat.mod_lt _ (by omega)
  have hfr : b % 2 ^ f < 2 ^ f := Nat.mod_lt _ (by omega)
  have a4 : b / 2 ^ f % 2 ^ e ≤ 2 ^ e - 1 := by omega
  have a5 : bits .and .u64 (b : Int) (((2 ^ f : Nat) : Int) - 1) = ((b % 2 ^ f : Nat) : Int) := by
    rw [← and_mask hb (by omega)]; congr 1; omega
  have hbf : b / 2 ^ f < 2 ^ 64 := Nat.lt_of_le_of_lt (Nat.div_le_self _ _) hb
  have a6 : bits .and .u64 ((b : Int) / ((2 ^ f : Nat) : Int)) ((2 ^ e - 1 : Nat) : Int) = ((b / 2 ^ f % 2 ^ e : Nat) : Int) := by
    rw [← and_mask hbf (by omega)]; rfl
  have a7 := and_pow (x := b) (n := f + e) hb (by omega)
  have a8 := bitAt b (f + e)
  unfold partsN
  by_cases h1 : b / 2 ^ f % 2 ^ e = 2 ^ e - 1
  · rw [if_pos h1]
    by_cases h2 : b % 2 ^ f = 0
    · rw [if_pos h2]
      exact rpartsA f _ _ b _ _ _ _ _ _ w hf hf1 hs a0 a1 a2 a3 a4 hfr hbb a5 a6 a7 a8 (by rw [h1]; simp) (by rw [h2]; simp)
    · rw [if_neg h2]
      have hf2 : f - 1 + 1 = f := by omega
      have hp : 2 ^ f = 2 * 2 ^ (f - 1) := by rw [← hf2, Nat.pow_succ]; simp; omega
      have e1 : (b % 2 ^ f / 2 ^ (f - 1) == 1) = ((((b % 2 ^ f / 2 ^ (f - 1) : Nat) : Int)) == 1) := by generalize b % 2 ^ f / 2 ^ (f - 1) = q; rw [Bool.eq_iff_iff]; simp; omega
      rw [e1]
      exact rpartsB f _ _ b _ _ _ _ _ _ _ _ _ _ w hf hf1 hs a0 a1 a2 a3 a4 hfr hbb a5 a6 a7 a8 (by rw [h1]; simp) (by simp only [beq_eq_false_iff_ne, ne_eq]; omega)
        (by simp) (Nat.pow_le_pow_right (by omega) (by omega)) Nat.one_le_two_pow rfl rfl (by
          rw [← and_mask (Nat.lt_of_le_of_lt (Nat.mod_le _ _) hb) (by omega)]; congr 1; have : 1 ≤ 2 ^ (f - 1) := Nat.one_le_two_pow; omega)
  · rw [if_neg h1]
    have t1 : (((b / 2 ^ f % 2 ^ e : Nat) : Int) == ((2 ^ e - 1 : Nat) : Int)) = false := by simp only [beq_eq_false_iff_ne, ne_eq]; omega
    by_cases h2 : 0 < b / 2 ^ f % 2 ^ e
    · rw [if_pos h2]
      refine (rpartsC f _ _ b _ _ _ _ _ _ w hf hf1 hs a0 a1 a2 a3 a4 hfr hbb a5 a6 a7 a8 t1 h2).mono ?_
      rintro en w' ⟨rfl, h⟩
      refine ⟨?_, h⟩
      congr 2; simp; unfold lst; omega
    · rw [if_neg h2]
      by_cases h3 : 0 < b % 2 ^ f
      · rw [if_pos h3]
        refine (rpartsD f _ _ b _ _ _ _ _ _ w hf hf1 hs a0 a1 a2 a3 a4 hfr hbb a5 a6 a7 a8 t1 (by omega) h3).mono ?_
        rintro en w' ⟨rfl, h⟩
        refine ⟨?_, h⟩
        congr 2
      · rw [if_neg h3]
        exact rpartsE f _ _ b _ _ _ _ _ _ w hf hf1 hs a0 a1 a2 a3 a4 hfr hbb a5 a6 a7 a8 t1 (by omega) (by omega)

set_option maxHeartbeats 4000000 in
theorem rof_any (f T Bs e m l : Nat) (x : FP) (w : World) (hf1 : 1 ≤ f) (hf : f ≤ 52) (he1 : 1 ≤ e) (he : e ≤ 11) (hT : T = 2 ^ e - 1) (hBs : Bs = (2 ^ e - 1) / 2)
    (hm : x.mant = m) (hl : x.load = l) (hm64 : m < 2 ^ 64) (hl64 : l < 2 ^ 64) :
    Calls Try.prog 19 #[x.val, .agg #[.int .i64 f, .int .i64 T, .int .i64 Bs]] w fun en w' =>
      en = .returned (.tuple #[.int .u64 (rofN f e x m l).1, .int .i64 (rofN f e x m l).2]) ∧ Below w.heap.size w w' := by
  obtain ⟨r, hr⟩ : ∃ r, r = rofN f e x m l := ⟨_, rfl⟩
  rw [← hr]
  obtain ⟨xk, xn, xm, xx, xq, xl⟩ := x
  simp only at hm hl
  subst hm hl
  obtain ⟨P, hP⟩ : ∃ P, P = 2 ^ f := ⟨_, rfl⟩
  have a0 : (2 : Int) ^ f = (P : Int) := by rw [hP]; simp
  have a0' : (2 : Int) ^ (f + 1) = 2 * (P : Int) := by rw [hP, Int.pow_succ]; simp; omega
  have a1 : 1 ≤ P := by rw [hP]; exact Nat.one_le_two_pow
  have a2 : P ≤ 2 ^ 52 := by rw [hP]; exact Nat.pow_le_pow_right (by omega) hf
  have a3' : 2 ^ e ≤ 2 ^ 11 := Nat.pow_le_pow_right (by omega) he
  have a3 : T ≤ 2047 := by omega
  have a4 : Bs ≤ 2047 := by omega
  have hs := fun w => rsign_any f T Bs e w hf he (by have : 1 ≤ 2 ^ e := Nat.one_le_two_pow; omega)
  have hp := fun c w (hc : c < 2 ^ 64) => rparts_any f T Bs e c w hf1 hf he1 he hc hT hBs
  have HS := Lib.hid hs; clear hs
  have HP := Lib.hid hp; clear hp
  have HR := Lib.hid hr; clear hr
  have HPP := Lib.hid hP; clear hP
  have HTT := Lib.hid hT; clear hT
  have HBB := Lib.hid hBs; clear hBs
  have HM := Lib.hid hm64; clear hm64
  have HL := Lib.hid hl64; clear hl64
  clear a3'
  simp only [FP.val]
  go_enter Try.func19, Try.ntmps19
  go_upto_block 0 with (fail)
  go_cut [6] (fun s6 wx => (∃ u : Nat, rcand f e ⟨xk, xn, m, xx, xq, l⟩ m l = some u ∧ u < 2 ^ 64 ∧ s6 = .int .u64 u) ∧ wx = ((w.alloc (.cells #[.int .i64 xk, .bool xn, .int .u64 m, .int .i64 xx, .bool xq, .int .u64 l] 32)).alloc (.cells #[.int .i64 f, .int .i64 T, .int .i64 Bs] 35)))
  case first =>
    have hTP := top_lt hf he
    rw [← HPP.out, ← HTT.out] at hTP
    have b1 : IntKind.u64.wrap ((T : Int) * (P : Int)) = ((T * P : Nat) : Int) := by rw [← Int.natCast_mul]; exact wrapU _ (by omega)
    obtain ⟨TP, hTPe⟩ : ∃ TP, TP = T * P := ⟨_, rfl⟩
    rw [← hTPe] at hTP b1
    have HTP := Lib.hid hTPe; clear hTPe
    by_cases k1 : xk = 3
    · have j1 : (xk == 3) = true := by simp [k1]
      have K1 := Lib.hid k1; clear k1
      go_wp2_with fail
      go_meet
      case rel => exact ⟨⟨TP, by simp [rcand, K1.out, HTP.out, HTT.out, HPP.out], by omega, rfl⟩, rfl⟩
    · have j1 : (xk == 3) = false := by simp [k1]
      have K1 := Lib.hid k1; clear k1
      by_cases k2 : xk = 4
      · have j2 : (xk == 4) = true := by simp [k2]
        have K2 := Lib.hid k2; clear k2
        have b2 := or64 (a := TP) (b := l) (by omega) HL.out
        have hb2 := or_lt64 (a := TP) (b := l) (by omega) HL.out
        cases xq
        · go_wp2_with fail
          go_meet
          case rel => exact ⟨⟨TP ||| l, by simp [rcand, K1.out, K2.out, HTP.out, HTT.out, HPP.out], hb2, rfl⟩, rfl⟩
        · obtain ⟨H, hH⟩ : ∃ H, H = 2 ^ (f - 1) := ⟨_, rfl⟩
          have b4 : (2 : Int) ^ (f - 1) = (H : Int) := by rw [hH]; simp
          have b5 : H ≤ 2 ^ 52 := by rw [hH]; exact Nat.pow_le_pow_right (by omega) (by omega)
          have HH := Lib.hid hH; clear hH
          obtain ⟨u, hu⟩ : ∃ u, u = TP ||| l := ⟨_, rfl⟩
          rw [← hu] at b2 hb2
          have HU := Lib.hid hu; clear hu
          have b6 := or64 (a := u) (b := H) hb2 (by omega)
          have hb6 := or_lt64 (a := u) (b := H) hb2 (by omega)
          have HB2 := Lib.hid hb2; clear hb2
          go_wp2_with fail
          go_meet
          case rel => exact ⟨⟨u ||| H, by simp [rcand, K1.out, K2.out, HTP.out, HTT.out, HPP.out, HU.out, HH.out], hb6, rfl⟩, rfl⟩
      · have j2 : (xk == 4) = false := by simp [k2]
        have K2 := Lib.hid k2; clear k2
        by_cases k3 : xk = 2
        · have j3 : (xk == 2) = true := by simp [k3]
          have K3 := Lib.hid k3; clear k3
          have below2 : Below w.heap.size w ((w.alloc (.cells #[.int .i64 xk, .bool xn, .int .u64 m, .int .i64 xx, .bool xq, .int .u64 l] 32)).alloc (.cells #[.int .i64 f, .int .i64 T, .int .i64 Bs] 35)) :=
            ((Below.refl w.heap.size w).alloc (Nat.le_refl _) _).alloc (by simp) _
          have HBW := Lib.hid below2; clear below2
          by_cases g1 : xx < 1 - (Bs : Int) - f
          · go_wp2_with fail
            go_ret2
            refine ⟨?_, HBW.out⟩
            rw [HR.out]
            have : rcand f e ⟨xk, xn, m, xx, xq, l⟩ m l = none := by
              rw [rcand_two K3.out, if_pos (.inl (by rw [← HBB.out]; exact g1))]
            simp [rofN, this]
          · by_cases g2 : (T : Int) - Bs - f ≤ xx
            · go_wp2_with fail
              go_ret2
              refine ⟨?_, HBW.out⟩
              rw [HR.out]
              have : rcand f e ⟨xk, xn, m, xx, xq, l⟩ m l = none := by
                rw [rcand_two K3.out, if_pos (.inr (.inl (by rw [← HBB.out, ← HTT.out]; exact g2)))]
              simp [rofN, this]
            · by_cases g3 : m / P = 1
              · have j4 : ((m : Int) / (P : Int) != 1) = false := by rw [← Int.natCast_ediv, g3]; rfl
                have G3 := Lib.hid g3; clear g3
                obtain ⟨y, hy⟩ : ∃ y : Nat, xx + (Bs : Int) + f = y := ⟨(xx + (Bs : Int) + f).toNat, by omega⟩
                have hy1 : y ≤ T := by omega
                have hyP : y * P ≤ T * P := Nat.mul_le_mul_right _ hy1
                rw [← HTP.out] at hyP
                have b3 : IntKind.u64.wrap ((y : Int) * (P : Int)) = ((y * P : Nat) : Int) := by rw [← Int.natCast_mul]; exact wrapU _ (by omega)
                have b4 : bits .and .u64 (m : Int) ((P : Int) - 1) = ((m % P : Nat) : Int) := by
                  rw [HPP.out, ← and_mask HM.out (by omega)]; congr 1; have : 1 ≤ 2 ^ f := Nat.one_le_two_pow; omega
                have hmm : m % P < 2 ^ 64 := Nat.lt_of_le_of_lt (Nat.mod_le _ _) HM.out
                have b5 := or64 (a := y * P) (b := m % P) (by omega) hmm
                have hb5 := or_lt64 (a := y * P) (b := m % P) (by omega) hmm
                obtain ⟨yP, hyPe⟩ : ∃ yP, yP = y * P := ⟨_, rfl⟩
                obtain ⟨mP, hmPe⟩ : ∃ mP, mP = m % P := ⟨_, rfl⟩
                rw [← hyPe] at b3 b5 hb5
                rw [← hmPe] at b4 b5 hb5
                have HB5 := Lib.hid hb5; clear hb5
                have HYP := Lib.hid hyPe; clear hyPe hyP
                have HMP := Lib.hid hmPe; clear hmPe hmm
                have HY := hy
                go_wp2_with fail
                go_meet
                case rel =>
                  refine ⟨⟨yP ||| mP, ?_, HB5.out, rfl⟩, rfl⟩
                  rw [rcand_two K3.out]
                  have hny : ¬ (xx < 1 - (((2 ^ e - 1) / 2 : Nat) : Int) - f ∨ ((2 ^ e - 1 : Nat) : Int) - (((2 ^ e - 1) / 2 : Nat) : Int) - (f : Int) ≤ xx ∨ m / 2 ^ f ≠ 1) := by
                    rw [← HBB.out, ← HTT.out, ← HPP.out]; rintro (h | h | h)
                    · omega
                    · omega
                    · exact h G3.out
                  rw [if_neg hny, ← HBB.out, ← HPP.out, HY, HYP.out, HMP.out]; rfl
              · have j4 : ((m : Int) / (P : Int) != 1) = true := by rw [← Int.natCast_ediv]; simp only [bne_iff_ne, ne_eq]; omega
                have G3 := Lib.hid g3; clear g3
                go_wp2_with fail
                go_ret2
                refine ⟨?_, HBW.out⟩
                rw [HR.out]
                have : rcand f e ⟨xk, xn, m, xx, xq, l⟩ m l = none := by
                  rw [rcand_two K3.out, if_pos (.inr (.inr (by rw [← HPP.out]; exact G3.out)))]
                simp [rofN, this]
        · have j3 : (xk == 2) = false := by simp [k3]
          have K3 := Lib.hid k3; clear k3
          by_cases k4 : xk = 1
          · have j4 : (xk == 1) = true := by simp [k4]
            have K4 := Lib.hid k4; clear k4
            go_wp2_with fail
            go_meet
            case rel => exact ⟨⟨m, by simp [rcand, K1.out, K2.out, K3.out, K4.out], HM.out, rfl⟩, rfl⟩
          · have j4 : (xk == 1) = false := by simp [k4]
            have K4 := Lib.hid k4; clear k4
            go_wp2_with fail
            go_meet
            case rel => exact ⟨⟨0, by simp [rcand, K1.out, K2.out, K3.out, K4.out], by omega, rfl⟩, rfl⟩
  case rest =>
    obtain ⟨⟨u, hu, hu64, rfl⟩, rfl⟩ := hcut
    have HU := Lib.hid hu; clear hu
    have HU64 := Lib.hid hu64; clear hu64
    have below2 : Below w.heap.size w ((w.alloc (.cells #[.int .i64 xk, .bool xn, .int .u64 m, .int .i64 xx, .bool xq, .int .u64 l] 32)).alloc (.cells #[.int .i64 f, .int .i64 T, .int .i64 Bs] 35)) :=
      ((Below.refl w.heap.size w).alloc (Nat.le_refl _) _).alloc (by simp) _
    have HBW := Lib.hid below2; clear below2
    by_cases g1 : P < l
    · go_wp2_with fail
      go_ret2
      refine ⟨?_, HBW.out⟩
      rw [HR.out]
      simp only [rofN, HU.out]
      rw [if_pos (.inl (by rw [← HPP.out]; exact g1))]
      rfl
    · by_cases g2 : 2 * P < m
      · go_wp2_with fail
        go_ret2
        refine ⟨?_, HBW.out⟩
        rw [HR.out]
        simp only [rofN, HU.out]
        rw [if_pos (.inr (by rw [Nat.pow_succ, ← HPP.out, Nat.mul_comm]; exact g2))]
        rfl
      · obtain ⟨c, hc⟩ : ∃ c, c = signedBits f e xn u := ⟨_, rfl⟩
        have hc64 : c < 2 ^ 64 := by
          rw [hc]; unfold signedBits; split
          · exact or_lt64 HU64.out (Nat.lt_of_le_of_lt (pow_lt64 (by omega)) (by decide))
          · exact HU64.out
        have hre : r = if partsN f e c = ⟨xk, xn, m, xx, xq, l⟩ then (c, 0) else (0, 40) := by
          rw [HR.out]; simp only [rofN, HU.out]
          rw [if_neg (by rw [Nat.pow_succ, ← HPP.out]; omega), hc]
        obtain ⟨p, hp⟩ : ∃ p, p = partsN f e c := ⟨_, rfl⟩
        have hpc := fun w => HP.out c w hc64
        rw [← hp] at hre hpc
        have e1 := eqA_fp p ⟨xk, xn, m, xx, xq, l⟩
        obtain ⟨pk, pn, pm, px, pq, pl⟩ := p
        simp only [FP.val] at hpc
        simp only at e1
        have HPC := Lib.hid hpc; clear hpc hp
        obtain ⟨bq, hbq⟩ : ∃ bq, bq = decide ((⟨pk, pn, pm, px, pq, pl⟩ : FP) = ⟨xk, xn, m, xx, xq, l⟩) := ⟨_, rfl⟩
        have hre' : r = if bq = true then (c, 0) else (0, 40) := by rw [hre, hbq]; simp
        have HRE := Lib.hid hre'; clear hre hre'
        have e24 : ∀ (d : Nat) (w : World), (Op.equalIn (d + 2) 32 (.agg #[.int .i64 pk, .bool pn, .int .u64 pm, .int .i64 px, .bool pq, .int .u64 pl])
            (.agg #[.int .i64 xk, .bool xn, .int .u64 m, .int .i64 xx, .bool xq, .int .u64 l])).run Try.prog w = .ok bq w := fun d w => by
          rw [eqA32, e1, hbq]
        clear hbq e1
        have hbits : (if xn then bits .or .u64 (u : Int) ((2 ^ (f + e) : Nat) : Int) else (u : Int)) = c := by
          rw [hc]; unfold signedBits; cases xn
          · rfl
          · exact or64 HU64.out (Nat.lt_of_le_of_lt (pow_lt64 (by omega)) (by decide))
        clear hc
        obtain ⟨G, hG⟩ : ∃ G, G = 2 ^ (f + e) := ⟨_, rfl⟩
        rw [← hG] at hbits
        have hs := HS.out
        rw [← hG] at hs
        clear HS
        have HS := Lib.hid hs; clear hs hG
        have HC64 := Lib.hid hc64; clear hc64
        cases xn
        · simp only [Bool.false_eq_true, if_false] at hbits
          obtain rfl : u = c := by omega
          go_wp2_with fail
          refine Reg.wp_region_rd (by kernel_rfl) (by kernel_rfl) (fun _ => ?_)
          repeat (refine Reg.rd_op rfl ?_; apply Exists.intro; apply And.intro; (intro w' hb; have hc := Reg.rd_cells hb; clear hb; go_simp; (try go_bits); first | done | (with_reducible exact rfl)); (intro _ a' ha'; simp only [Act.put, List.setIfInBounds_toArray, List.set_cons_zero, List.set_cons_succ] at ha'; subst ha'))
          refine Reg.rd_op rfl ?_; apply Exists.intro; apply And.intro
          · intro w' hb; have hsz := Reg.rd_size hb; clear hb; go_simp; (try go_bits); exact HPC.out _
          intro _ a' ha'; simp only [Act.put, List.setIfInBounds_toArray, List.set_cons_zero, List.set_cons_succ] at ha'; subst ha'
          repeat (refine Reg.rd_op rfl ?_; apply Exists.intro; apply And.intro; (intro w' hb; have hc := Reg.rd_cells hb; clear hb; go_simp; (try go_bits); first | done | (with_reducible exact rfl)); (intro _ a' ha'; simp only [Act.put, List.setIfInBounds_toArray, List.set_cons_zero, List.set_cons_succ] at ha'; subst ha'))
          refine Reg.rd_end (fun wz hb => ?_)
          cases bq <;>
          · go_wp2_with fail
            go_ret2
            exact ⟨by rw [HRE.out]; simp, HBW.out.trans (hb.mono (by simp; omega))⟩
        · simp only [if_true] at hbits
          go_wp2_with fail
          refine (HS.out _).mono ?_
          rintro en w3 ⟨rfl, hb3⟩
          have O := (((Reg.Own.nil w).alloc rfl _ _).alloc (k := w.heap.size + 1) (by simp) _ _).keep hb3
          obtain ⟨c1, f1, z1, y1, ⟨n10, -⟩, c0, f0, z0, y0, -, zz⟩ := O.rules
          have HO := Lib.hid O; clear O
          clear hb3
          go_wp2_with fail
          refine Reg.wp_region_rd (by kernel_rfl) (by kernel_rfl) (fun _ => ?_)
          repeat (refine Reg.rd_op rfl ?_; apply Exists.intro; apply And.intro; (intro w' hb; have hc := Reg.rd_cells hb; clear hb; go_simp; (try go_bits); first | done | (with_reducible exact rfl)); (intro _ a' ha'; simp only [Act.put, List.setIfInBounds_toArray, List.set_cons_zero, List.set_cons_succ] at ha'; subst ha'))
          refine Reg.rd_op rfl ?_; apply Exists.intro; apply And.intro
          · intro w' hb; have hsz := Reg.rd_size hb; clear hb; go_simp; (try go_bits); exact HPC.out _
          intro _ a' ha'; simp only [Act.put, List.setIfInBounds_toArray, List.set_cons_zero, List.set_cons_succ] at ha'; subst ha'
          repeat (refine Reg.rd_op rfl ?_; apply Exists.intro; apply And.intro; (intro w' hb; have hc := Reg.rd_cells hb; clear hb; go_simp; (try go_bits); first | done | (with_reducible exact rfl)); (intro _ a' ha'; simp only [Act.put, List.setIfInBounds_toArray, List.set_cons_zero, List.set_cons_succ] at ha'; subst ha'))
          refine Reg.rd_end (fun wz hb => ?_)
          cases bq <;>
          · go_wp2_with fail
            go_ret2
            exact ⟨by rw [HRE.out]; simp, (HO.out.keep hb).below⟩

end Go.Proofs.Ytpemchghaddgdaa
