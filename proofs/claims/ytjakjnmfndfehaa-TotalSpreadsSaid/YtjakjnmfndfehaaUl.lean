/- The exact sum of products: walk. Condition: as many numbers on both sides, at most 65536, of 64 bits. -/
import Derived.Test.YtjakjnmfndfehaaUk
import Derived.Test.YtjakjnmfndfehaaDd
namespace Go.Proofs.Ytjakjnmfndfehaa
open Go.RowKit Go.Pst
set_option maxRecDepth 20000
set_option linter.unusedSimpArgs false
set_option linter.unusedVariables false
set_option maxHeartbeats 2000000 in
theorem exactdot_any (n c d : Nat) (A B : Option Addr) (f g : Nat → Nat) (w : World) (hA : FlAt w w.heap.size A n f) (hB : FlAt w w.heap.size B n g) (hn : n ≤ 65536) (hf : ∀ j, j < n → f j < 2 ^ 64) (hg : ∀ j, j < n → g j < 2 ^ 64) :
    Calls Try.prog 49 #[.slice A n c, .slice B n d] w fun en w' => en = .returned (.tuple #[.float .f64 (exdotV f g n), .int .i64 0]) ∧ Below w.heap.size w w' := by
  have HBO := Lib.hid fun w => both_any n c n d A B w hn hn
  rw [if_pos rfl] at HBO
  have HA := Lib.hid hA; have HB := Lib.hid hB; have HF := Lib.hid hf; have HG := Lib.hid hg
  have HSM := Lib.hid (dxU_small hn hf hg)
  clear hA hB hf hg
  go_enter Try.func49, Try.ntmps49
  go_wp2_with fail
  refine (HBO.out _).mono ?_
  rintro en w' ⟨rfl, rfl⟩
  go_wp2_with fail
  go_loopw [8, 9, 10, 21] (fun _ _ _ t wr => ∃ k : Nat, t = .int .i64 k ∧ k ≤ n ∧ Below w.heap.size w wr ∧ ∃ V, ExAt wr w.heap.size V 2148 (dxP f g k) (dxL f g k) (dxN f g k) (dxS f g k) (dxM f g k) ∧ WIs V (dxU f g k)) (fun _ _ _ t _ => n - (intOf t).toNat)
  case atStart => exact ⟨0, rfl, by omega, (Below.refl _ _).alloc (Nat.le_refl _) _, _, ex_made w 2148, wis_zero⟩
  case round =>
    obtain ⟨k, rfl, hk, hbw, V, hE, hV⟩ := hrel
    have BW := Lib.hid hbw; have HE := Lib.hid hE; have HV := Lib.hid hV
    clear hbw hE hV
    by_cases hkn : k < n
    · have h3 : (k : Int) < (n : Int) := by omega
      have h0 : (0 : Int) ≤ (k : Int) := by omega
      obtain ⟨a, o, rfl, ha, hc⟩ := (HA.out.below BW.out (Nat.le_refl _)) (by omega)
      obtain ⟨b, o2, rfl, hb, hc2⟩ := (HB.out.below BW.out (Nat.le_refl _)) (by omega)
      have q := hc k hkn
      have q2 := hc2 k hkn
      have hbx := HF.out k hkn
      have hby := HG.out k hkn
      have zE := HE.out.wide.lt
      have eP : dxP f g (k + 1) = (dxP f g k || (!dN (f k) (g k) && dI (f k) (g k) && !dG (f k) (g k))) := rfl
      have eL : dxL f g (k + 1) = (dxL f g k || (!dN (f k) (g k) && dI (f k) (g k) && dG (f k) (g k))) := rfl
      have eN : dxN f g (k + 1) = (dxN f g k || dN (f k) (g k)) := rfl
      have eS : dxS f g (k + 1) = (dxS f g k || !dN (f k) (g k)) := rfl
      have eM : dxM f g (k + 1) = (dxM f g k || (!dN (f k) (g k) && (dI (f k) (g k) || decide (dM (f k) (g k) ≠ 0) || !dG (f k) (g k)))) := rfl
      have eU : dxU f g (k + 1) = dxU f g k + (if !dN (f k) (g k) && !dI (f k) (g k) then sgn (dG (f k) (g k)) (dM (f k) (g k)) else 0) := rfl
      clear hc hc2
      obtain ⟨x, hx⟩ : ∃ x, x = f k := ⟨_, rfl⟩
      obtain ⟨y, hy⟩ : ∃ y, y = g k := ⟨_, rfl⟩
      rw [← hx] at q hbx eP eL eN eS eM eU
      rw [← hy] at q2 hby eP eL eN eS eM eU
      clear hx hy
      have hne := fne_self x
      have hne2 := fne_self y
      have hzx := feq_zer hbx
      have hzy := feq_zer hby
      have hix := fun w => minf_any x w hbx
      have hiy := fun w => minf_any y w hby
      cases hnx : nan64 x
      · cases hny : nan64 y
        · rw [hnx] at hne
          rw [hny] at hne2
          cases hi1 : infB x
          · rw [hi1] at hix
            cases hi2 : infB y
            · rw [hi2] at hiy
              have hfx : finB x := ⟨hbx, hnx, hi1⟩
              have hfy : finB y := ⟨hby, hny, hi2⟩
              have hd1 : dN x y = false := by unfold dN; rw [hnx, hny, hi1, hi2]; rfl
              have hd2 : dI x y = false := by unfold dI; rw [hi1, hi2]; rfl
              rw [hd1, hd2] at eP eL eM
              rw [hd1] at eN eS
              rw [hd1, hd2, show (!false && !false) = true from rfl, if_pos rfl] at eU
              have hal := (Below.refl wr.heap.size wr).alloc (Nat.le_refl _) (.cells #[.float .f64 x, .float .f64 y] 24)
              have HT := Lib.hid (term_any w.heap.size 2 2 wr.heap.size 0 V (fun i => if i = 0 then x else y) 2148 _ _ _ _ _ (wr.alloc (.cells #[.float .f64 x, .float .f64 y] 24)) (HE.out.below hal) (.inr rfl) (by simp)
                (fun j hj => by
                  rw [cell_of_row _ _ _ _ _ _ (heap_alloc_new _ _), Nat.zero_add]
                  have : j = 0 ∨ j = 1 := by omega
                  rcases this with rfl | rfl <;> rfl) (fun j hj => by show finB (if j = 0 then x else y); split <;> assumption) (by omega) _ HV.out)
              have hmag : pwZ (sz (fun i => if i = 0 then x else y) 0 2 * sz (fun i => if i = 0 then x else y) 1 2) (eSum (fun i => if i = 0 then x else y) 2148 2) = dM x y := frM_two hfx hfy
              have hbl : xSum (fun i => if i = 0 then x else y) 2 = dG x y := by
                show ((false != negB x) != negB y) = (negB x != negB y)
                cases negB x <;> rfl
              rw [hmag, hbl] at HT
              generalize dM x y = m2 at *
              generalize dG x y = dg at *
              have hBA := Lib.hid (BW.out.trans (hal.mono BW.out.size))
              have hsz : w.heap.size ≤ wr.heap.size := BW.out.size
              have EP := Lib.hid eP; have EL := Lib.hid eL; have EN := Lib.hid eN; have ES := Lib.hid eS; have EM := Lib.hid eM; have EU := Lib.hid eU
              have HIX := Lib.hid hix; have HIY := Lib.hid hiy
              clear eP eL eN eS eM eU hix hiy
              clear hal hmag hbl hi1 hi2 hnx hny hd1 hd2 hfx hfy
              go_wp2_with fail
              refine (HIX.out _).mono ?_
              rintro en w' ⟨rfl, rfl⟩
              go_wp2_with fail
              refine (HIY.out _).mono ?_
              rintro en w' ⟨rfl, rfl⟩
              go_wp2_with fail
              refine (HIX.out _).mono ?_
              rintro en w' ⟨rfl, rfl⟩
              go_wp2_with fail
              refine (HIY.out _).mono ?_
              rintro en w' ⟨rfl, rfl⟩
              go_wp2_with fail
              have ht := HT.out
              clear HT
              refine Calls.mono ht ?_
              rintro en w2 hT
              obtain ⟨⟨v2, rfl⟩, hF2, V2, hE2, hV2⟩ := hT
              have E2 := Lib.hid hE2; have V2' := Lib.hid hV2
              have B2 := Lib.hid (Fr.below hBA.out hF2 (Nat.le_refl _) (by simp; omega))
              clear hF2 hE2 hV2 ht
              go_wp2_with fail
              go_roundw
              case rel =>
                refine ⟨k + 1, by go_num, by omega, B2.out, V2, ?_, ?_⟩
                · have e2 := E2.out
                  rw [EP.out, EL.out, EN.out, ES.out, EM.out]
                  simpa [Bool.or_assoc] using e2
                · rw [EU.out]; exact V2'.out
              case measure => (simp [intOf] <;> omega)
            · rw [hi2] at hiy
              have hzy' : zerB y = false := by unfold zerB; rw [hi2]; simp
              rw [hzy'] at hzy
              cases hzx' : zerB x
              · rw [hzx'] at hzx
                rw [show dN x y = false by (first | (unfold dN; rw [hnx, hny, hi1, hi2, hzx', hzy']; rfl) | (unfold dI; rw [hi1, hi2]; rfl)), show dI x y = true by (first | (unfold dN; rw [hnx, hny, hi1, hi2, hzx', hzy']; rfl) | (unfold dI; rw [hi1, hi2]; rfl))] at eP eL eM eU
                rw [show dN x y = false by (first | (unfold dN; rw [hnx, hny, hi1, hi2, hzx', hzy']; rfl) | (unfold dI; rw [hi1, hi2]; rfl))] at eN eS
                rw [Bool.not_true, Bool.and_false, if_neg Bool.false_ne_true, Int.add_zero] at eU
                have hfx := flt_neg hbx hnx hzx'
                have hfy := flt_neg hby hny hzy'
                have HT := Lib.hid (infinite_any w.heap.size V 2148 _ _ _ _ _ (dG x y) wr HE.out)
                have hdg : (!(negB x == negB y)) = dG x y := rfl
                generalize dG x y = dg at *
                generalize negB x = sx at *
                generalize negB y = sy at *
                have EP := Lib.hid eP; have EL := Lib.hid eL; have EN := Lib.hid eN; have ES := Lib.hid eS; have EM := Lib.hid eM; have EU := Lib.hid eU
                have HIX := Lib.hid hix; have HIY := Lib.hid hiy
                clear eP eL eN eS eM eU hix hiy
                clear hzx' hzy'
                clear hi1 hi2 hnx hny
                go_wp2_with fail
                refine (HIX.out _).mono ?_
                rintro en w' ⟨rfl, rfl⟩
                go_wp2_with fail
                refine (HIY.out _).mono ?_
                rintro en w' ⟨rfl, rfl⟩
                go_wp2_with fail
                refine (HIX.out _).mono ?_
                rintro en w' ⟨rfl, rfl⟩
                go_wp2_with fail
                refine (HIY.out _).mono ?_
                rintro en w' ⟨rfl, rfl⟩
                go_wp2_with fail
                refine HT.out.mono ?_
                rintro en w2 hT
                obtain ⟨⟨v2, rfl⟩, hF2, hE2⟩ := hT
                have E2 := Lib.hid hE2
                have B2 := Lib.hid (Fr.below BW.out hF2 (Nat.le_refl _) BW.out.size)
                clear hF2 hE2 HT
                go_wp2_with fail
                go_roundw
                case rel =>
                  refine ⟨k + 1, by go_num, by omega, B2.out, V, ?_, ?_⟩
                  · have e2 := E2.out
                    rw [EP.out, EL.out, EN.out, ES.out, EM.out]
                    simpa using e2
                  · rw [EU.out]; exact HV.out
                case measure => (simp [intOf] <;> omega)
              · rw [hzx'] at hzx
                rw [show dN x y = true by (unfold dN; rw [hnx, hny, hi1, hi2, hzx', hzy']; rfl)] at eP eL eN eS eM eU
                rw [Bool.not_true, Bool.false_and, if_neg Bool.false_ne_true, Int.add_zero] at eU
                have EP := Lib.hid eP; have EL := Lib.hid eL; have EN := Lib.hid eN; have ES := Lib.hid eS; have EM := Lib.hid eM; have EU := Lib.hid eU
                have HIX := Lib.hid hix; have HIY := Lib.hid hiy
                clear eP eL eN eS eM eU hix hiy
                have c5 := HE.out.cn
                have f5 := HE.out.wide.fr 75
                have E2 := Lib.hid (HE.out.setN (b := true))
                have B2 := Lib.hid (BW.out.setCell (p := ⟨w.heap.size, 75, none⟩) (Nat.le_refl _) (.bool true))
                clear hi1 hi2 hnx hny hzx' hzy'
                go_wp2_with fail
                refine (HIX.out _).mono ?_
                rintro en w' ⟨rfl, rfl⟩
                go_wp2_with fail
                refine (HIY.out _).mono ?_
                rintro en w' ⟨rfl, rfl⟩
                go_wp2_with fail
                go_roundw
                case rel =>
                  refine ⟨k + 1, by go_num, by omega, B2.out, V, ?_, ?_⟩
                  · have e2 := E2.out
                    rw [EP.out, EL.out, EN.out, ES.out, EM.out]
                    simpa using e2
                  · rw [EU.out]; exact HV.out
                case measure => (simp [intOf] <;> omega)
          · rw [hi1] at hix
            have hzx' : zerB x = false := by unfold zerB; rw [hi1]; simp
            rw [hzx'] at hzx
            cases hzy' : zerB y
            · rw [hzy'] at hzy
              rw [show dN x y = false by (first | (unfold dN; rw [hnx, hny, hi1, hzx', hzy']; simp; done) | (unfold dI; rw [hi1]; rfl)), show dI x y = true by (first | (unfold dN; rw [hnx, hny, hi1, hzx', hzy']; simp; done) | (unfold dI; rw [hi1]; rfl))] at eP eL eM eU
              rw [show dN x y = false by (first | (unfold dN; rw [hnx, hny, hi1, hzx', hzy']; simp; done) | (unfold dI; rw [hi1]; rfl))] at eN eS
              rw [Bool.not_true, Bool.and_false, if_neg Bool.false_ne_true, Int.add_zero] at eU
              have hfx := flt_neg hbx hnx hzx'
              have hfy := flt_neg hby hny hzy'
              have HT := Lib.hid (infinite_any w.heap.size V 2148 _ _ _ _ _ (dG x y) wr HE.out)
              have hdg : (!(negB x == negB y)) = dG x y := rfl
              generalize dG x y = dg at *
              generalize negB x = sx at *
              generalize negB y = sy at *
              have EP := Lib.hid eP; have EL := Lib.hid eL; have EN := Lib.hid eN; have ES := Lib.hid eS; have EM := Lib.hid eM; have EU := Lib.hid eU
              have HIX := Lib.hid hix; have HIY := Lib.hid hiy
              clear eP eL eN eS eM eU hix hiy
              clear hzx' hzy'
              clear hi1 hnx hny
              go_wp2_with fail
              refine (HIX.out _).mono ?_
              rintro en w' ⟨rfl, rfl⟩
              go_wp2_with fail
              refine (HIX.out _).mono ?_
              rintro en w' ⟨rfl, rfl⟩
              go_wp2_with fail
              refine HT.out.mono ?_
              rintro en w2 hT
              obtain ⟨⟨v2, rfl⟩, hF2, hE2⟩ := hT
              have E2 := Lib.hid hE2
              have B2 := Lib.hid (Fr.below BW.out hF2 (Nat.le_refl _) BW.out.size)
              clear hF2 hE2 HT
              go_wp2_with fail
              go_roundw
              case rel =>
                refine ⟨k + 1, by go_num, by omega, B2.out, V, ?_, ?_⟩
                · have e2 := E2.out
                  rw [EP.out, EL.out, EN.out, ES.out, EM.out]
                  simpa using e2
                · rw [EU.out]; exact HV.out
              case measure => (simp [intOf] <;> omega)
            · rw [hzy'] at hzy
              rw [show dN x y = true by (unfold dN; rw [hnx, hny, hi1, hzx', hzy']; simp)] at eP eL eN eS eM eU
              rw [Bool.not_true, Bool.false_and, if_neg Bool.false_ne_true, Int.add_zero] at eU
              have EP := Lib.hid eP; have EL := Lib.hid eL; have EN := Lib.hid eN; have ES := Lib.hid eS; have EM := Lib.hid eM; have EU := Lib.hid eU
              have HIX := Lib.hid hix; have HIY := Lib.hid hiy
              clear eP eL eN eS eM eU hix hiy
              have c5 := HE.out.cn
              have f5 := HE.out.wide.fr 75
              have E2 := Lib.hid (HE.out.setN (b := true))
              have B2 := Lib.hid (BW.out.setCell (p := ⟨w.heap.size, 75, none⟩) (Nat.le_refl _) (.bool true))
              clear hi1 hnx hny hzx' hzy'
              go_wp2_with fail
              refine (HIX.out _).mono ?_
              rintro en w' ⟨rfl, rfl⟩
              go_wp2_with fail
              go_roundw
              case rel =>
                refine ⟨k + 1, by go_num, by omega, B2.out, V, ?_, ?_⟩
                · have e2 := E2.out
                  rw [EP.out, EL.out, EN.out, ES.out, EM.out]
                  simpa using e2
                · rw [EU.out]; exact HV.out
              case measure => (simp [intOf] <;> omega)
        · rw [hnx] at hne
          rw [hny] at hne2
          rw [show dN x y = true by (unfold dN; rw [hnx, hny]; rfl)] at eP eL eN eS eM eU
          rw [Bool.not_true, Bool.false_and, if_neg Bool.false_ne_true, Int.add_zero] at eU
          have EP := Lib.hid eP; have EL := Lib.hid eL; have EN := Lib.hid eN; have ES := Lib.hid eS; have EM := Lib.hid eM; have EU := Lib.hid eU
          have HIX := Lib.hid hix; have HIY := Lib.hid hiy
          clear eP eL eN eS eM eU hix hiy
          have c5 := HE.out.cn
          have f5 := HE.out.wide.fr 75
          have E2 := Lib.hid (HE.out.setN (b := true))
          have B2 := Lib.hid (BW.out.setCell (p := ⟨w.heap.size, 75, none⟩) (Nat.le_refl _) (.bool true))
          clear hnx hny
          go_wp2_with fail
          go_roundw
          case rel =>
            refine ⟨k + 1, by go_num, by omega, B2.out, V, ?_, ?_⟩
            · have e2 := E2.out
              rw [EP.out, EL.out, EN.out, ES.out, EM.out]
              simpa using e2
            · rw [EU.out]; exact HV.out
          case measure => (simp [intOf] <;> omega)
      · rw [hnx] at hne
        rw [show dN x y = true by (unfold dN; rw [hnx]; rfl)] at eP eL eN eS eM eU
        rw [Bool.not_true, Bool.false_and, if_neg Bool.false_ne_true, Int.add_zero] at eU
        have EP := Lib.hid eP; have EL := Lib.hid eL; have EN := Lib.hid eN; have ES := Lib.hid eS; have EM := Lib.hid eM; have EU := Lib.hid eU
        have HIX := Lib.hid hix; have HIY := Lib.hid hiy
        clear eP eL eN eS eM eU hix hiy
        have c5 := HE.out.cn
        have f5 := HE.out.wide.fr 75
        have E2 := Lib.hid (HE.out.setN (b := true))
        have B2 := Lib.hid (BW.out.setCell (p := ⟨w.heap.size, 75, none⟩) (Nat.le_refl _) (.bool true))
        clear hnx
        go_wp2_with fail
        go_roundw
        case rel =>
          refine ⟨k + 1, by go_num, by omega, B2.out, V, ?_, ?_⟩
          · have e2 := E2.out
            rw [EP.out, EL.out, EN.out, ES.out, EM.out]
            simpa using e2
          · rw [EU.out]; exact HV.out
        case measure => (simp [intOf] <;> omega)
    · obtain rfl : k = n := by omega
      have HT := Lib.hid (total_any w.heap.size V 2148 _ _ _ _ _ _ wr HE.out HV.out HSM.out (by omega))
      go_wp2_with fail
      refine HT.out.mono ?_
      rintro en w2 ⟨rfl, hb2⟩
      have B2 := Lib.hid (BW.out.trans (hb2.mono BW.out.size))
      clear hb2 HT
      go_wp2_with fail
      go_ret2
      exact ⟨rfl, B2.out⟩
theorem exactdot_pairs (n c m d : Nat) (A B : Option Addr) (w : World) (hn : n ≤ 65536) (hm : m ≤ 65536) (h : n ≠ m) :
    Calls Try.prog 49 #[.slice A n c, .slice B m d] w fun en w' => en = .returned (.tuple #[.float .f64 0, .int .i64 51]) ∧ w = w' := by
  have HBO := Lib.hid fun w => both_any n c m d A B w hn hm
  rw [if_neg h] at HBO
  clear h
  go_enter Try.func49, Try.ntmps49
  go_wp2_with fail
  refine (HBO.out _).mono ?_
  rintro en w' ⟨rfl, rfl⟩
  go_wp2_with fail
  go_ret2
  exact ⟨rfl, rfl⟩
end Go.Proofs.Ytjakjnmfndfehaa
