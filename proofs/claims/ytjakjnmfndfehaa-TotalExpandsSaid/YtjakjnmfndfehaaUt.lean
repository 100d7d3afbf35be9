/- total: the document's answer to how two exact sums stand: walk. Condition: at most 65536 numbers of 64 bits on either side. -/
import Derived.Test.YtjakjnmfndfehaaUs
namespace Go.Pst
open Go Ieee Go.RowKit Go.Proofs.Ytjakjnmfndfehaa
set_option linter.unusedVariables false
set_option linter.unusedSimpArgs false
theorem sgn_not (b : Bool) (n : Nat) : sgn (!b) n = -sgn b n := by unfold sgn; cases b <;> simp
theorem exSum_fin {f : Nat → Nat} {k : Nat} (h : finF (f k) = true) : exSum f (k + 1) = exSum f k + valZ (f k) := by
  show exSum f k + (if finF (f k) then valZ (f k) else 0) = _
  rw [h, if_pos rfl]
end Go.Pst
namespace Go.Proofs.Ytjakjnmfndfehaa
open Go.RowKit Go.Pst
set_option maxRecDepth 20000
set_option linter.unusedSimpArgs false
set_option linter.unusedVariables false
set_option maxHeartbeats 4000000 in
theorem rcompare_any (n c m d : Nat) (A B : Option Addr) (f g : Nat → Nat) (w : World) (hA : FlAt w w.heap.size A n f) (hB : FlAt w w.heap.size B m g) (hn : n ≤ 65536) (hm : m ≤ 65536) (hf : ∀ j, j < n → f j < 2 ^ 64) (hg : ∀ j, j < m → g j < 2 ^ 64) :
    Calls Try.prog 57 #[.slice A n c, .slice B m d] w (CmpPost f g n m [] w) := by
  have HA0 := Lib.hid hA; have HB0 := Lib.hid hB; have HF := Lib.hid hf; have HG := Lib.hid hg
  have HSM := Lib.hid (exDiff_out hn hm hf hg)
  clear hA hB hf hg
  go_enter Try.func57, Try.ntmps57
  go_wp2_with (with_reducible refine wpList_store_row rfl 88 _ _ rfl w.heap.size (bcells fun _ => 0).toArray rfl rfl 88 (bcells fun _ => 0).toArray (by rw [heap_alloc_new, bcells_zero]) (info280' _) (by simp [bcells]) (all_oneCell_toArray (bcells_one _)) ?_)
  go_loopw [7] (fun t wr => ∃ k : Nat, t = .int .i64 k ∧ k ≤ n ∧ finAll f k = true ∧ Below w.heap.size w wr ∧ w.heap.size + 1 ≤ wr.heap.size ∧
      ∃ X, wr.heap[w.heap.size]? = some (.cells (bcells X).toArray 88 (0, 0)) ∧ (∀ i, i < 280 → -(65535 * (k : Int)) ≤ X i ∧ X i ≤ 65535 * (k : Int)) ∧ bv X 280 = exSum f k * ((2 ^ K11 : Nat) : Int)) (fun t _ => n - (intOf t).toNat)
  case atStart =>
    exact ⟨0, rfl, by omega, rfl, below_setRow ((Below.refl _ _).alloc (Nat.le_refl _) _) (Nat.le_refl _), by rw [setRow_size]; simp,
      _, setRow_heap _ _ Try.zeroCells88 _ _ _ (heap_alloc_new _ _), fun i _ => by simp, by rw [show exSum f 0 = 0 from rfl, Int.zero_mul]; exact bv_zero 280⟩
  case round =>
    obtain ⟨k, rfl, hk, hfk, hw, hsz, X, ha, hx, hbv⟩ := hrel
    have HA := Lib.hid ha; have BW := Lib.hid hw; have HX := Lib.hid hx; have HBV := Lib.hid hbv; have HFK := Lib.hid hfk
    clear ha hw hx hbv hfk
    by_cases hkn : k < n
    ·
      have h3 : (k : Int) < (n : Int) := by omega
      have h0 : (0 : Int) ≤ (k : Int) := by omega
      obtain ⟨a, o, rfl, haw, hc⟩ := (HA0.out.below BW.out (Nat.le_refl _)) (by omega)
      have q := hc k hkn
      have hb := HF.out k hkn
      have eF : finAll f (k + 1) = (finAll f k && finF (f k)) := rfl
      have hfd : finF (f k) = (!nan64 (f k) && !infB (f k)) := rfl
      have hnot := Lib.hid fun h => finAll_not (f := f) (k := k) h n hkn
      have eU := Lib.hid fun h => exSum_fin (f := f) (k := k) h
      have hno := fun w => pnone_any (f k) w
      have hin := fun w => pinf_any (f k) w hb
      have hpa := fun w => pparts_any (f k) w hb
      clear hc
      obtain ⟨x, hx⟩ : ∃ x, x = f k := ⟨_, rfl⟩
      rw [← hx] at q hb eF hfd hno hin hpa hnot eU
      clear hx
      cases hnx : nan64 x
      · rw [hnx] at hno hfd
        cases hix : infB x
        · rw [hix] at hin hfd
          have hfin : finB x := ⟨hb, hnx, hix⟩
          have hff : finF x = true := hfd
          rw [hff, HFK.out] at eF
          have eu := eU.out hff
          have hpl := place_fin hfin
          have hml : mantB x < W64 := Nat.lt_of_lt_of_le (mant_lt x) (by decide)
          obtain ⟨at', hat⟩ : ∃ a, a = placeB x + 1126 := ⟨_, rfl⟩
          rw [show (placeB x : Int) - 1074 = (at' : Int) - 2200 by omega] at hpa
          have HPL := Lib.hid fun w => plus_any X (mantB x) at' (negB x) (65535 * ((k : Int))) w hml (by omega) (by omega) HX.out
          have HX2 : Hid (∀ i, i < 280 → -(65535 * (((k + 1 : Nat) : Int))) ≤ plusD X (mantB x) (at' % 16) (at' / 16) (negB x) 5 i ∧ plusD X (mantB x) (at' % 16) (at' / 16) (negB x) 5 i ≤ 65535 * (((k + 1 : Nat) : Int))) := Lib.hid fun i hi => by
            have := plusD_bd (X := X) (m := mantB x) (s := at' % 16) (k := at' / 16) (neg := (negB x)) (b := 65535 * ((k : Int))) hml (Nat.mod_lt _ (by omega)) (j := 5) (i := i) (HX.out i hi)
            omega
          have hbs := bv_plus5 (X := X) (m := mantB x) (s := at' % 16) (k := at' / 16) (n := 280) (neg := (negB x)) (by omega) hml (Nat.mod_lt _ (by omega))
          have hmag : sgn (negB x) (mantB x * 2 ^ (16 * (at' / 16) + at' % 16)) = valZ x * ((2 ^ K11 : Nat) : Int) := by
            rw [show 16 * (at' / 16) + at' % 16 = placeB x + K11 by unfold K11; omega, Nat.pow_add, ← Nat.mul_assoc, valZ_mag]
            exact (sgn_mul _ _ _).symm
          rw [hmag, HBV.out, ← Int.add_mul, ← eu] at hbs
          have HV2 := Lib.hid hbs
          obtain ⟨X2, hX2⟩ : ∃ Y, Y = plusD X (mantB x) (at' % 16) (at' / 16) (negB x) 5 := ⟨_, rfl⟩
          rw [← hX2] at HPL HX2 HV2
          generalize negB x = ng at *
          generalize mantB x = mx at *
          have EF := Lib.hid eF; have HNO := Lib.hid hno; have HIN := Lib.hid hin; have HPA := Lib.hid hpa
          clear hX2 hbs hmag hat hpl hml hno hin hpa hfd hff hnx hix hfin eF eu eU hnot
          go_wp2_with fail
          refine (HNO.out _).mono ?_
          rintro en w' ⟨rfl, rfl⟩
          go_wp2_with fail
          refine (HIN.out _).mono ?_
          rintro en w' ⟨rfl, rfl⟩
          go_wp2_with fail
          refine (HPA.out _).mono ?_
          rintro en w' ⟨rfl, rfl⟩
          go_wp2_with (with_reducible refine wpList_load_row rfl 88 _ rfl w.heap.size rfl 88 (bcells X).toArray (0, 0) _ HA.out Try.underlying88 rfl (info280' _) ?_)
          refine (HPL.out _).mono ?_
          rintro en wn ⟨rfl, hbn⟩
          have zz := BW.out.size
          have HA1 := Lib.hid ((hbn.block w.heap.size (by omega)).trans HA.out)
          have BW1 := Lib.hid (BW.out.trans (hbn.mono zz))
          have hsz1 : w.heap.size + 1 ≤ wn.heap.size := Nat.le_trans hsz hbn.size
          clear hbn HPL
          go_wp2_with (with_reducible refine wpList_store_row rfl 88 _ _ rfl w.heap.size (bcells X2).toArray rfl rfl 88 (bcells X).toArray HA1.out (info280' _) (by simp [bcells]) (all_oneCell_toArray (bcells_one _)) ?_)
          have HA2 := Lib.hid (setRow_heap wn w.heap.size _ (bcells X2).toArray _ _ HA1.out)
          have BW2 := Lib.hid (below_setRow (cs := (bcells X2).toArray) BW1.out (Nat.le_refl _))
          have hsz2 : w.heap.size + 1 ≤ (wn.setRow w.heap.size (bcells X2).toArray).heap.size := by rw [setRow_size]; exact hsz1
          go_roundw
          case rel => exact ⟨k + 1, by go_num, by omega, by rw [EF.out]; rfl, BW2.out, hsz2, X2, HA2.out, HX2.out, HV2.out⟩
          case measure => (simp [intOf] <;> omega)
        · rw [hix] at hin hfd
          have HN := Lib.hid (hnot.out hfd)
          have HNO := Lib.hid hno; have HIN := Lib.hid hin
          clear hno hin hpa hfd hnx hix eF eU hnot
          go_wp2_with fail
          refine (HNO.out _).mono ?_
          rintro en w' ⟨rfl, rfl⟩
          go_wp2_with fail
          refine (HIN.out _).mono ?_
          rintro en w' ⟨rfl, rfl⟩
          go_wp2_with fail
          go_ret2
          refine ⟨?_, BW.out⟩
          rw [cmpV_not (by rw [HN.out]; rfl), show (finAll f n && finAll g m) = false by rw [HN.out]; rfl]
          rfl
      · rw [hnx] at hno hfd
        have HN := Lib.hid (hnot.out hfd)
        have HNO := Lib.hid hno
        clear hno hin hpa hfd hnx eF eU hnot
        go_wp2_with fail
        refine (HNO.out _).mono ?_
        rintro en w' ⟨rfl, rfl⟩
        go_wp2_with fail
        go_ret2
        refine ⟨?_, BW.out⟩
        rw [cmpV_not (by rw [HN.out]; rfl), show (finAll f n && finAll g m) = false by rw [HN.out]; rfl]
        rfl
    · obtain rfl : n = k := by omega
      go_wp2_with fail
      go_loopw [11] (fun t wr => ∃ i : Nat, t = .int .i64 i ∧ i ≤ m ∧ finAll g i = true ∧ Below w.heap.size w wr ∧ w.heap.size + 1 ≤ wr.heap.size ∧
          ∃ X, wr.heap[w.heap.size]? = some (.cells (bcells X).toArray 88 (0, 0)) ∧ (∀ j, j < 280 → -(65535 * ((n : Int) + (i : Int))) ≤ X j ∧ X j ≤ 65535 * ((n : Int) + (i : Int))) ∧ bv X 280 = (exSum f n - exSum g i) * ((2 ^ K11 : Nat) : Int)) (fun t _ => m - (intOf t).toNat)
      case atStart => exact ⟨0, rfl, by omega, rfl, BW.out, hsz, X, HA.out, fun j hj => by have := HX.out j hj; omega, by rw [show exSum g 0 = 0 from rfl, Int.sub_zero]; exact HBV.out⟩
      case round =>
        have HFN := HFK
        clear HA BW HX HBV HFK hsz hkn hk
        obtain ⟨k, rfl, hk, hfk, hw, hsz, X, ha, hx, hbv⟩ := hrel
        have HA := Lib.hid ha; have BW := Lib.hid hw; have HX := Lib.hid hx; have HBV := Lib.hid hbv; have HFK := Lib.hid hfk
        clear ha hw hx hbv hfk
        by_cases hkn : k < m
        ·
          have h3 : (k : Int) < (m : Int) := by omega
          have h0 : (0 : Int) ≤ (k : Int) := by omega
          obtain ⟨a, o, rfl, haw, hc⟩ := (HB0.out.below BW.out (Nat.le_refl _)) (by omega)
          have q := hc k hkn
          have hb := HG.out k hkn
          have eF : finAll g (k + 1) = (finAll g k && finF (g k)) := rfl
          have hfd : finF (g k) = (!nan64 (g k) && !infB (g k)) := rfl
          have hnot := Lib.hid fun h => finAll_not (f := g) (k := k) h m hkn
          have eU := Lib.hid fun h => exSum_fin (f := g) (k := k) h
          have hno := fun w => pnone_any (g k) w
          have hin := fun w => pinf_any (g k) w hb
          have hpa := fun w => pparts_any (g k) w hb
          clear hc
          obtain ⟨x, hx⟩ : ∃ x, x = g k := ⟨_, rfl⟩
          rw [← hx] at q hb eF hfd hno hin hpa hnot eU
          clear hx
          cases hnx : nan64 x
          · rw [hnx] at hno hfd
            cases hix : infB x
            · rw [hix] at hin hfd
              have hfin : finB x := ⟨hb, hnx, hix⟩
              have hff : finF x = true := hfd
              rw [hff, HFK.out] at eF
              have eu := eU.out hff
              have hpl := place_fin hfin
              have hml : mantB x < W64 := Nat.lt_of_lt_of_le (mant_lt x) (by decide)
              obtain ⟨at', hat⟩ : ∃ a, a = placeB x + 1126 := ⟨_, rfl⟩
              rw [show (placeB x : Int) - 1074 = (at' : Int) - 2200 by omega] at hpa
              have HPL := Lib.hid fun w => plus_any X (mantB x) at' (!negB x) (65535 * ((n : Int) + (k : Int))) w hml (by omega) (by omega) HX.out
              have HX2 : Hid (∀ i, i < 280 → -(65535 * ((n : Int) + ((k + 1 : Nat) : Int))) ≤ plusD X (mantB x) (at' % 16) (at' / 16) (!negB x) 5 i ∧ plusD X (mantB x) (at' % 16) (at' / 16) (!negB x) 5 i ≤ 65535 * ((n : Int) + ((k + 1 : Nat) : Int))) := Lib.hid fun i hi => by
                have := plusD_bd (X := X) (m := mantB x) (s := at' % 16) (k := at' / 16) (neg := (!negB x)) (b := 65535 * ((n : Int) + (k : Int))) hml (Nat.mod_lt _ (by omega)) (j := 5) (i := i) (HX.out i hi)
                omega
              have hbs := bv_plus5 (X := X) (m := mantB x) (s := at' % 16) (k := at' / 16) (n := 280) (neg := (!negB x)) (by omega) hml (Nat.mod_lt _ (by omega))
              have hmag : sgn (negB x) (mantB x * 2 ^ (16 * (at' / 16) + at' % 16)) = valZ x * ((2 ^ K11 : Nat) : Int) := by
                rw [show 16 * (at' / 16) + at' % 16 = placeB x + K11 by unfold K11; omega, Nat.pow_add, ← Nat.mul_assoc, valZ_mag]
                exact (sgn_mul _ _ _).symm
              rw [sgn_not, hmag, HBV.out, ← Int.neg_mul, ← Int.add_mul, show (exSum f n - exSum g k + -valZ x) = exSum f n - exSum g (k + 1) by rw [eu]; omega] at hbs
              have HV2 := Lib.hid hbs
              obtain ⟨X2, hX2⟩ : ∃ Y, Y = plusD X (mantB x) (at' % 16) (at' / 16) (!negB x) 5 := ⟨_, rfl⟩
              rw [← hX2] at HPL HX2 HV2
              generalize negB x = ng at *
              generalize mantB x = mx at *
              have EF := Lib.hid eF; have HNO := Lib.hid hno; have HIN := Lib.hid hin; have HPA := Lib.hid hpa
              clear hX2 hbs hmag hat hpl hml hno hin hpa hfd hff hnx hix hfin eF eu eU hnot
              go_wp2_with fail
              refine (HNO.out _).mono ?_
              rintro en w' ⟨rfl, rfl⟩
              go_wp2_with fail
              refine (HIN.out _).mono ?_
              rintro en w' ⟨rfl, rfl⟩
              go_wp2_with fail
              refine (HPA.out _).mono ?_
              rintro en w' ⟨rfl, rfl⟩
              go_wp2_with (with_reducible refine wpList_load_row rfl 88 _ rfl w.heap.size rfl 88 (bcells X).toArray (0, 0) _ HA.out Try.underlying88 rfl (info280' _) ?_)
              refine (HPL.out _).mono ?_
              rintro en wn ⟨rfl, hbn⟩
              have zz := BW.out.size
              have HA1 := Lib.hid ((hbn.block w.heap.size (by omega)).trans HA.out)
              have BW1 := Lib.hid (BW.out.trans (hbn.mono zz))
              have hsz1 : w.heap.size + 1 ≤ wn.heap.size := Nat.le_trans hsz hbn.size
              clear hbn HPL
              go_wp2_with (with_reducible refine wpList_store_row rfl 88 _ _ rfl w.heap.size (bcells X2).toArray rfl rfl 88 (bcells X).toArray HA1.out (info280' _) (by simp [bcells]) (all_oneCell_toArray (bcells_one _)) ?_)
              have HA2 := Lib.hid (setRow_heap wn w.heap.size _ (bcells X2).toArray _ _ HA1.out)
              have BW2 := Lib.hid (below_setRow (cs := (bcells X2).toArray) BW1.out (Nat.le_refl _))
              have hsz2 : w.heap.size + 1 ≤ (wn.setRow w.heap.size (bcells X2).toArray).heap.size := by rw [setRow_size]; exact hsz1
              go_roundw
              case rel => exact ⟨k + 1, by go_num, by omega, by rw [EF.out]; rfl, BW2.out, hsz2, X2, HA2.out, HX2.out, HV2.out⟩
              case measure => (simp [intOf] <;> omega)
            · rw [hix] at hin hfd
              have HN := Lib.hid (hnot.out hfd)
              have HNO := Lib.hid hno; have HIN := Lib.hid hin
              clear hno hin hpa hfd hnx hix eF eU hnot
              go_wp2_with fail
              refine (HNO.out _).mono ?_
              rintro en w' ⟨rfl, rfl⟩
              go_wp2_with fail
              refine (HIN.out _).mono ?_
              rintro en w' ⟨rfl, rfl⟩
              go_wp2_with fail
              go_ret2
              refine ⟨?_, BW.out⟩
              rw [cmpV_not (by rw [HFN.out, HN.out]; rfl), show (finAll f n && finAll g m) = false by rw [HFN.out, HN.out]; rfl]
              rfl
          · rw [hnx] at hno hfd
            have HN := Lib.hid (hnot.out hfd)
            have HNO := Lib.hid hno
            clear hno hin hpa hfd hnx eF eU hnot
            go_wp2_with fail
            refine (HNO.out _).mono ?_
            rintro en w' ⟨rfl, rfl⟩
            go_wp2_with fail
            go_ret2
            refine ⟨?_, BW.out⟩
            rw [cmpV_not (by rw [HFN.out, HN.out]; rfl), show (finAll f n && finAll g m) = false by rw [HFN.out, HN.out]; rfl]
            rfl
        · obtain rfl : m = k := by omega
          have HST := Lib.hid fun w => settled_any X (65535 * ((n : Int) + (m : Int))) w (by omega) HX.out (by rw [HBV.out]; exact HSM.out)
          rw [HBV.out] at HST
          go_wp2_with (with_reducible refine wpList_load_row rfl 88 _ rfl w.heap.size rfl 88 (bcells X).toArray (0, 0) _ HA.out Try.underlying88 rfl (info280' _) ?_)
          refine (HST.out _).mono ?_
          rintro en wn ⟨Y, rfl, -, -, hbn⟩
          have BW1 := Lib.hid (BW.out.trans (hbn.mono BW.out.size))
          clear hbn HST
          rw [sgnI_mul _ _ (Nat.two_pow_pos _)]
          go_wp2_with (with_reducible refine wpList_store_row rfl 88 _ _ rfl wn.heap.size (bcells Y).toArray rfl rfl 88 (bcells fun _ => 0).toArray (by rw [heap_alloc_new, bcells_zero]) (info280' _) (by simp [bcells]) (all_oneCell_toArray (bcells_one _)) ?_)
          go_ret2
          refine ⟨?_, below_setRow (BW1.out.alloc BW1.out.size _) BW1.out.size⟩
          rw [cmpV_fin HFN.out HFK.out, HFN.out, HFK.out]
          rfl
end Go.Proofs.Ytjakjnmfndfehaa
