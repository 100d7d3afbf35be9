/- How much is the same, the nearest of some, whether they are so near: the law LikeChoices returns true for every input of the bound. Condition: what is read is of bulk at most 1048576. -/
import Derived.Test.YtkhdemaanakbeaaCb
import Derived.Test.YtkhdemaanakbeaaUi
import Derived.Test.YtkhdemaanakbeaaCc
namespace Go.Proofs.Ytkhdemaanakbeaa
open Go.RowKit Go.Pst Go.ChangeShapes Go.WideShapes Go.ChangeAt Go.Joins Go.Deep
set_option maxRecDepth 100000
set_option linter.unusedSimpArgs false
set_option linter.unusedVariables false


set_option maxHeartbeats 16000000 in
theorem likeChoices_core (cI cO cX cT n c np cp nn cc most r1 : Nat) (A Ap An : Option Addr) (p : Nat → Int × Int × Nat) (fa : Nat → Int) (NA : Nat → Option Addr) (M C : Nat → Nat) (f : Nat → Nat → Int) (D : Nat → Nat) (e r2 : Int) (w : World)
    (hA : NameAt w w.heap.size A n fa) (hN : NamesAt w w.heap.size An nn NA M C f) (hn : n ≤ 1048576) (hM : ∀ i, i < nn → M i ≤ 1048576) (hnn : nn ≤ 1048576) (hp : PairsAt w w.heap.size Ap np p)
    (hG : ∀ w, PairsAt w w.heap.size Ap np p → Calls Try.prog 18 #[.agg #[.float .f64 cI, .float .f64 cO, .float .f64 cX, .float .f64 cT, .slice Ap np cp]] w (GivenPost cI cO cX cT np p w))
    (hNe : ∀ w, NameAt w w.heap.size A n fa → NamesAt w w.heap.size An nn NA M C f → PairsAt w w.heap.size Ap np p → Calls Try.prog 24 #[.agg #[.float .f64 cI, .float .f64 cO, .float .f64 cX, .float .f64 cT, .slice Ap np cp], .slice A n c, .slice An nn cc] w (NearPost (near D nn) e w))
    (hRC : ∀ A' c' w, PairsAt w w.heap.size A' np p → Calls Try.prog 21 #[.agg #[.float .f64 cI, .float .f64 cO, .float .f64 cX, .float .f64 cT, .slice A' np c']] w fun en w' => en = .returned (.tuple #[.int .i64 r1, .int .i64 r2]) ∧ Below w.heap.size w w')
    (hDc : ∀ i, cn (D i) = D i ∧ D i < 2 ^ 64)
    (hbad : r2 ≠ 0 → r2 = 270 ∧ e = 270) (hok : r2 = 0 → (anyW n M wideB nn = true → e = 271) ∧ (anyW n M wideB nn = false → e = 0))
    (hRD : r2 = 0 → ∀ A' c' k w, k < nn → NameAt w w.heap.size A n fa → NameAt w w.heap.size (NA k) (M k) (f k) → PairsAt w w.heap.size A' np p → Calls Try.prog 25 #[.agg #[.float .f64 cI, .float .f64 cO, .float .f64 cX, .float .f64 cT, .slice A' np c'], .slice A n c, .slice (NA k) (M k) (C k)] w (FlLike (D k) w))
    (hSH : r2 = 0 → ∀ k w, k < nn → wideB n (M k) = false → NameAt w w.heap.size A n fa → NameAt w w.heap.size (NA k) (M k) (f k) → PairsAt w w.heap.size Ap np p → Calls Try.prog 26 #[.agg #[.float .f64 cI, .float .f64 cO, .float .f64 cX, .float .f64 cT, .slice Ap np cp], .slice A n c, .slice (NA k) (M k) (C k)] w (SharePost (shV (D k) n (M k)) 0 w))
    (hWI : r2 = 0 → ∀ k w, k < nn → wideB n (M k) = false → NameAt w w.heap.size A n fa → NameAt w w.heap.size (NA k) (M k) (f k) → PairsAt w w.heap.size Ap np p → Calls Try.prog 27 #[.agg #[.float .f64 cI, .float .f64 cO, .float .f64 cX, .float .f64 cT, .slice Ap np cp], .slice A n c, .slice (NA k) (M k) (C k), .float .f64 most] w (WithinPost (leF (D k) most) 0 w))
    (hRS : r2 = 0 → ∀ A' c' k w, k < nn → NameAt w w.heap.size A n fa → NameAt w w.heap.size (NA k) (M k) (f k) → PairsAt w w.heap.size A' np p → Calls Try.prog 28 #[.agg #[.float .f64 cI, .float .f64 cO, .float .f64 cX, .float .f64 cT, .slice A' np c'], .slice A n c, .slice (NA k) (M k) (C k)] w (FlLike (shV (D k) n (M k)) w)) :
    Calls Try.prog 6 #[.agg #[.float .f64 cI, .float .f64 cO, .float .f64 cX, .float .f64 cT, .slice Ap np cp], .slice A n c, .agg #[.slice An nn cc, .float .f64 most]] w fun en w' => en = .returned (.bool true) ∧ Below w.heap.size w w' := by
  have HA := Lib.hid hA; have HN := Lib.hid hN; have HP := Lib.hid hp; have HG := Lib.hid hG; have HNE := Lib.hid hNe; have HRC := Lib.hid hRC; have HDC := Lib.hid hDc; have HML := Lib.hid hM
  clear hA hN hp hG hNe hRC hDc hM
  by_cases hr : r2 = 0
  · have hok2 := hok hr
    have HOK := Lib.hid hok2
    have HRD := Lib.hid (hRD hr); have HSH := Lib.hid (hSH hr); have HWI := Lib.hid (hWI hr); have HRS := Lib.hid (hRS hr)
    clear hok hok2 hbad hRD hSH hWI hRS
    subst hr
    go_enter Try.func6, Try.ntmps6
    go_wp2_with fail
    have O := (Reg.Own.nil w).alloc rfl #[.float .f64 cI, .float .f64 cO, .float .f64 cX, .float .f64 cT, .slice Ap np cp] 26
    obtain ⟨c0, f0, z0, y0, -, zz⟩ := O.rules
    have HO := Lib.hid O; clear O
    have O := HO.out.alloc (k := w.heap.size + 1) (by simp) #[.slice An nn cc, .float .f64 most] 55
    clear HO c0 f0 z0 y0 zz
    obtain ⟨c1, f1, z1, y1, ⟨n10, -⟩, c0, f0, z0, y0, -, zz⟩ := O.rules
    have HO := Lib.hid O; clear O
    refine (HG.out _ ((HP.out.below HO.out.below (Nat.le_refl _)).more HO.out.size)).mono ?_
    rintro en wg ⟨A', c', rfl, hp', hbn⟩
    have HP' := Lib.hid hp'
    clear hp'
    have O := HO.out.keep hbn
    clear HO c1 f1 z1 y1 n10 c0 f0 z0 y0 zz
    obtain ⟨c1, f1, z1, y1, ⟨n10, -⟩, c0, f0, z0, y0, -, zz⟩ := O.rules
    have HO := Lib.hid O; clear O
    clear hbn
    go_wp2_with fail
    have BG := Lib.hid ((Below.refl wg.heap.size wg).alloc (Nat.le_refl _) (.cells #[.float .f64 cI, .float .f64 cO, .float .f64 cX, .float .f64 cT, .slice A' np c'] 39))
    have O := HO.out.alloc rfl #[.float .f64 cI, .float .f64 cO, .float .f64 cX, .float .f64 cT, .slice A' np c'] 39
    clear HO c1 f1 z1 y1 n10 c0 f0 z0 y0 zz
    obtain ⟨c2, f2, z2, y2, ⟨n21, n20, -⟩, c1, f1, z1, y1, ⟨n10, -⟩, c0, f0, z0, y0, -, zz⟩ := O.rules
    have HO := Lib.hid O; clear O
    refine (HNE.out _ ((HA.out.below HO.out.below (Nat.le_refl _)).more HO.out.size) ((HN.out.below HO.out.below (Nat.le_refl _)).more HO.out.size) ((HP.out.below HO.out.below (Nat.le_refl _)).more HO.out.size)).mono ?_
    rintro en wn ⟨dn, av, rfl, hd1, hd2, hbn⟩
    have HD1 := Lib.hid hd1; have HD2 := Lib.hid hd2; clear hd1 hd2
    replace BG := Lib.hid (BG.out.trans (hbn.mono BG.out.size))
    have O := HO.out.keep hbn
    clear HO c2 f2 z2 y2 n21 n20 c1 f1 z1 y1 n10 c0 f0 z0 y0 zz
    obtain ⟨c2, f2, z2, y2, ⟨n21, n20, -⟩, c1, f1, z1, y1, ⟨n10, -⟩, c0, f0, z0, y0, -, zz⟩ := O.rules
    have HO := Lib.hid O; clear O
    clear hbn
    go_wp2_with fail
    refine (HRC.out _ _ _ ((HP'.out.below BG.out (Nat.le_refl _)).more BG.out.size)).mono ?_
    rintro en wn ⟨rfl, hbn⟩
    replace BG := Lib.hid (BG.out.trans (hbn.mono BG.out.size))
    have O := HO.out.keep hbn
    clear HO c2 f2 z2 y2 n21 n20 c1 f1 z1 y1 n10 c0 f0 z0 y0 zz
    obtain ⟨c2, f2, z2, y2, ⟨n21, n20, -⟩, c1, f1, z1, y1, ⟨n10, -⟩, c0, f0, z0, y0, -, zz⟩ := O.rules
    have HO := Lib.hid O; clear O
    clear hbn
    go_wp2_with fail
    go_loopw [11, 12, 13, 16] (fun a l ff t wr => ∃ (k u : Nat), t = .int .i64 k ∧ k ≤ nn ∧ ff = .int .i64 0 ∧ a = .int .i64 (near D k).1 ∧ l = .float .f64 u ∧ cn u = (near D k).2 ∧ anyW n M wideB k = false ∧ Below wg.heap.size wg wr ∧
        Reg.Own w wr [(wg.heap.size, #[.float .f64 cI, .float .f64 cO, .float .f64 cX, .float .f64 cT, .slice A' np c'], 39), (w.heap.size + 1, #[.slice An nn cc, .float .f64 most], 55), (w.heap.size, #[.float .f64 cI, .float .f64 cO, .float .f64 cX, .float .f64 cT, .slice Ap np cp], 26)]) (fun _ _ _ t _ => nn - (intOf t).toNat)
    case atStart => exact ⟨0, 0, rfl, by omega, rfl, rfl, rfl, by show cn 0 = 0; decide, rfl, BG.out, HO.out⟩
    case round =>
      clear HO BG c2 f2 z2 y2 n21 n20 c1 f1 z1 y1 n10 c0 f0 z0 y0 zz
      obtain ⟨k, u, rfl, hk, rfl, rfl, rfl, hu, hw0, hbw, hown⟩ := hrel
      have O := hown
      obtain ⟨c2, f2, z2, y2, ⟨n21, n20, -⟩, c1, f1, z1, y1, ⟨n10, -⟩, c0, f0, z0, y0, -, zz⟩ := O.rules
      have HO := Lib.hid O; clear O
      have BG := Lib.hid hbw
      have HW0 := Lib.hid hw0
      have HU := Lib.hid hu
      clear hown hbw hw0 hu
      by_cases hkn : k < nn
      · obtain ⟨b, off, rfl, hb, hc, hnm⟩ := (HN.out.below HO.out.below (Nat.le_refl _)) (by omega)
        have q := hc k hkn
        have hk1 : (k : Int) < (nn : Int) := by omega
        have hblt : b < wr.heap.size := by have := HO.out.size; omega
        have hmk := HML.out k hkn
        have HNK := Lib.hid ((HN.out (by omega)).choose_spec.choose_spec.2.2.2 k hkn)
        have HWD := Lib.hid fun w => wide_any n (M k) c (C k) A (NA k) w hn hmk
        clear hc hnm
        cases hwb : wideB n (M k)
        · rw [hwb] at HWD
          have HWS : Hid (anyW n M wideB (k + 1) = false) := Lib.hid (by unfold anyW; rw [HW0.out, hwb]; rfl)
          have HRDk := Lib.hid fun A' c' w => HRD.out A' c' k w hkn
          have HSHk := Lib.hid fun w => HSH.out k w hkn hwb
          have HWIk := Lib.hid fun w => HWI.out k w hkn hwb
          have HRSk := Lib.hid fun A' c' w => HRS.out A' c' k w hkn
          clear hwb
          obtain ⟨dc1, dc2⟩ := HDC.out k
          obtain ⟨lc1, lc2⟩ := near_cn D HDC.out k
          have hnp0 := near_pos D k
          have hz0 : k = 0 → (near D k).1 = -1 := fun h => by rw [h]; rfl
          have hst : near D (k + 1) = if nearC (D k) (near D k).2 (near D k).1 then ((k : Int), D k) else near D k := rfl
          generalize hx : D k = x at *
          generalize hv : near D k = v at *
          have HST := Lib.hid hst
          obtain ⟨va, vl⟩ := v
          simp only at HU lc1 lc2 hnp0 hz0 ⊢
          have hsv := (shV_cn x n (M k)).2
          have HLF := Lib.hid fun u (h : cn u = x) => leF_cn (y := most) h dc1
          clear hst hx hv
          have HLC := Lib.hid lc1; have HDC1 := Lib.hid dc1; clear lc1 dc1
          generalize shV x n (M k) = sv at *
          generalize leF x most = lb at *
          go_wp2_with fail
          refine (HWD.out _).mono ?_
          rintro en wq ⟨rfl, rfl⟩
          go_wp2_with fail
          refine (HRDk.out _ _ _ ((HA.out.below HO.out.below (Nat.le_refl _)).more HO.out.size) ((HNK.out.below HO.out.below (Nat.le_refl _)).more HO.out.size) ((HP'.out.below BG.out (Nat.le_refl _)).more BG.out.size)).mono ?_
          rintro en wn ⟨x1, rfl, hx1, hbn⟩
          have HX1 := Lib.hid hx1; clear hx1
          have HLB := Lib.hid (HLF.out x1 HX1.out)
          clear q
          replace BG := Lib.hid (BG.out.trans (hbn.mono BG.out.size))
          have O := HO.out.keep hbn
          clear HO c2 f2 z2 y2 n21 n20 c1 f1 z1 y1 n10 c0 f0 z0 y0 zz
          obtain ⟨c2, f2, z2, y2, ⟨n21, n20, -⟩, c1, f1, z1, y1, ⟨n10, -⟩, c0, f0, z0, y0, -, zz⟩ := O.rules
          have HO := Lib.hid O; clear O
          clear hbn
          go_wp2_with fail
          refine (HSHk.out _ ((HA.out.below HO.out.below (Nat.le_refl _)).more HO.out.size) ((HNK.out.below HO.out.below (Nat.le_refl _)).more HO.out.size) ((HP.out.below HO.out.below (Nat.le_refl _)).more HO.out.size)).mono ?_
          rintro en wn ⟨s1, rfl, -, hs1, hbn⟩
          have HS1 := Lib.hid (hs1 rfl); clear hs1
          replace BG := Lib.hid (BG.out.trans (hbn.mono BG.out.size))
          have O := HO.out.keep hbn
          clear HO c2 f2 z2 y2 n21 n20 c1 f1 z1 y1 n10 c0 f0 z0 y0 zz
          obtain ⟨c2, f2, z2, y2, ⟨n21, n20, -⟩, c1, f1, z1, y1, ⟨n10, -⟩, c0, f0, z0, y0, -, zz⟩ := O.rules
          have HO := Lib.hid O; clear O
          clear hbn
          go_wp2_with fail
          refine (HWIk.out _ ((HA.out.below HO.out.below (Nat.le_refl _)).more HO.out.size) ((HNK.out.below HO.out.below (Nat.le_refl _)).more HO.out.size) ((HP.out.below HO.out.below (Nat.le_refl _)).more HO.out.size)).mono ?_
          rintro en wn ⟨rfl, hbn⟩
          replace BG := Lib.hid (BG.out.trans (hbn.mono BG.out.size))
          have O := HO.out.keep hbn
          clear HO c2 f2 z2 y2 n21 n20 c1 f1 z1 y1 n10 c0 f0 z0 y0 zz
          obtain ⟨c2, f2, z2, y2, ⟨n21, n20, -⟩, c1, f1, z1, y1, ⟨n10, -⟩, c0, f0, z0, y0, -, zz⟩ := O.rules
          have HO := Lib.hid O; clear O
          clear hbn
          go_wp2_with fail
          refine (HRSk.out _ _ _ ((HA.out.below HO.out.below (Nat.le_refl _)).more HO.out.size) ((HNK.out.below HO.out.below (Nat.le_refl _)).more HO.out.size) ((HP'.out.below BG.out (Nat.le_refl _)).more BG.out.size)).mono ?_
          rintro en wn ⟨s2, rfl, hs2, hbn⟩
          have HS2 := Lib.hid hs2; clear hs2
          replace BG := Lib.hid (BG.out.trans (hbn.mono BG.out.size))
          have O := HO.out.keep hbn
          clear HO c2 f2 z2 y2 n21 n20 c1 f1 z1 y1 n10 c0 f0 z0 y0 zz
          obtain ⟨c2, f2, z2, y2, ⟨n21, n20, -⟩, c1, f1, z1, y1, ⟨n10, -⟩, c0, f0, z0, y0, -, zz⟩ := O.rules
          have HO := Lib.hid O; clear O
          clear hbn
          go_wp2_with fail
          refine (alike_any s1 s2 sv _ HS1.out HS2.out hsv).mono ?_
          rintro en wn ⟨rfl, hbn⟩
          have hle : (flt .f64 x1 most || feq .f64 x1 most) = lb := HLB.out
          have e1 : fne .f64 x1 x1 = nan64 x := by rw [fne_self, ← HX1.out, cn_nan]
          have e2 : feq .f64 x1 x1 = !nan64 x := by rw [feq64, ← HX1.out, cn_nan]; cases nan64 x1 <;> simp
          have e3 : fne .f64 u u = nan64 vl := by rw [fne_self, ← HU.out, cn_nan]
          have e4 : feq .f64 u u = !nan64 vl := by rw [feq64, ← HU.out, cn_nan]; cases nan64 u <;> simp
          clear HLF
          by_cases hk0 : k = 0
          · have hva := hz0 hk0
            have HNX : Hid (near D (k + 1) = ((k : Int), x)) := Lib.hid (by rw [HST.out, if_pos]; unfold nearC; rw [hva]; rfl)
            subst hva
            clear hnp0 hz0 e1 e2 e3 e4 hk0
            cases lb <;>
            ·
              replace BG := Lib.hid (BG.out.trans (hbn.mono BG.out.size))
              have O := HO.out.keep hbn
              clear HO c2 f2 z2 y2 n21 n20 c1 f1 z1 y1 n10 c0 f0 z0 y0 zz
              obtain ⟨c2, f2, z2, y2, ⟨n21, n20, -⟩, c1, f1, z1, y1, ⟨n10, -⟩, c0, f0, z0, y0, -, zz⟩ := O.rules
              have HO := Lib.hid O; clear O
              clear hbn
              go_wp2_with fail
              go_roundw
              case rel => exact ⟨k + 1, x1, by go_num, by omega, rfl, by rw [HNX.out], rfl, by rw [HNX.out]; exact HX1.out, HWS.out, BG.out, HO.out⟩
              case measure => simp [intOf]; omega
          · have hva := (hnp0 (by omega)).1
            have hv0 : decide (va < 0) = false := decide_eq_false (by omega)
            clear hnp0 hz0 hk0
            cases hnx : nan64 x
            · rw [hnx] at e1 e2
              cases hnl : nan64 vl
              · rw [hnl] at e3 e4
                obtain rfl : x1 = x := cn_eq HX1.out hnx
                obtain rfl : u = vl := cn_eq HU.out hnl
                have HOR := Lib.hid fun w => rorder_any x1 u w dc2 lc2
                by_cases ho : ordK x1 < ordK u
                · have HNX : Hid (near D (k + 1) = ((k : Int), x1)) := Lib.hid (by rw [HST.out, if_pos]; unfold nearC; rw [hnx, hnl, decide_eq_true ho]; simp)
                  have hc1 : cmpI (ordK x1) (ordK u) < 0 := by unfold cmpI; rw [if_pos ho]; decide
                  generalize cmpI (ordK x1) (ordK u) = o at *
                  clear ho hnx hnl
                  cases lb <;>
                  ·
                    replace BG := Lib.hid (BG.out.trans (hbn.mono BG.out.size))
                    have O := HO.out.keep hbn
                    clear HO c2 f2 z2 y2 n21 n20 c1 f1 z1 y1 n10 c0 f0 z0 y0 zz
                    obtain ⟨c2, f2, z2, y2, ⟨n21, n20, -⟩, c1, f1, z1, y1, ⟨n10, -⟩, c0, f0, z0, y0, -, zz⟩ := O.rules
                    have HO := Lib.hid O; clear O
                    clear hbn
                    go_wp2_with fail
                    refine (HOR.out _).mono ?_
                    rintro en wo ⟨rfl, rfl⟩
                    go_wp2_with fail
                    go_roundw
                    case rel => exact ⟨k + 1, x1, by go_num, by omega, rfl, by rw [HNX.out], rfl, by rw [HNX.out]; exact HX1.out, HWS.out, BG.out, HO.out⟩
                    case measure => simp [intOf]; omega
                · have HNX : Hid (near D (k + 1) = (va, u)) := Lib.hid (by rw [HST.out, if_neg]; unfold nearC; rw [hv0, hnx, hnl, decide_eq_false ho]; simp)
                  have hc1 : ¬ cmpI (ordK x1) (ordK u) < 0 := by unfold cmpI; rw [if_neg ho]; split <;> omega
                  generalize cmpI (ordK x1) (ordK u) = o at *
                  clear ho hnx hnl
                  cases lb <;>
                  ·
                    replace BG := Lib.hid (BG.out.trans (hbn.mono BG.out.size))
                    have O := HO.out.keep hbn
                    clear HO c2 f2 z2 y2 n21 n20 c1 f1 z1 y1 n10 c0 f0 z0 y0 zz
                    obtain ⟨c2, f2, z2, y2, ⟨n21, n20, -⟩, c1, f1, z1, y1, ⟨n10, -⟩, c0, f0, z0, y0, -, zz⟩ := O.rules
                    have HO := Lib.hid O; clear O
                    clear hbn
                    go_wp2_with fail
                    refine (HOR.out _).mono ?_
                    rintro en wo ⟨rfl, rfl⟩
                    go_wp2_with fail
                    go_roundw
                    case rel => exact ⟨k + 1, u, by go_num, by omega, rfl, by rw [HNX.out], rfl, by rw [HNX.out]; exact HU.out, HWS.out, BG.out, HO.out⟩
                    case measure => simp [intOf]; omega
              · rw [hnl] at e3 e4
                have HNX : Hid (near D (k + 1) = ((k : Int), x)) := Lib.hid (by rw [HST.out, if_pos]; unfold nearC; rw [hnx, hnl]; simp)
                clear hnx hnl
                cases lb <;>
                ·
                  replace BG := Lib.hid (BG.out.trans (hbn.mono BG.out.size))
                  have O := HO.out.keep hbn
                  clear HO c2 f2 z2 y2 n21 n20 c1 f1 z1 y1 n10 c0 f0 z0 y0 zz
                  obtain ⟨c2, f2, z2, y2, ⟨n21, n20, -⟩, c1, f1, z1, y1, ⟨n10, -⟩, c0, f0, z0, y0, -, zz⟩ := O.rules
                  have HO := Lib.hid O; clear O
                  clear hbn
                  go_wp2_with fail
                  go_roundw
                  case rel => exact ⟨k + 1, x1, by go_num, by omega, rfl, by rw [HNX.out], rfl, by rw [HNX.out]; exact HX1.out, HWS.out, BG.out, HO.out⟩
                  case measure => simp [intOf]; omega
            · rw [hnx] at e1 e2
              have HNX : Hid (near D (k + 1) = (va, vl)) := Lib.hid (by rw [HST.out, if_neg]; unfold nearC; rw [hv0, hnx]; simp)
              clear hnx
              generalize nan64 vl = nl at *
              cases lb <;> cases nl <;>
              ·
                replace BG := Lib.hid (BG.out.trans (hbn.mono BG.out.size))
                have O := HO.out.keep hbn
                clear HO c2 f2 z2 y2 n21 n20 c1 f1 z1 y1 n10 c0 f0 z0 y0 zz
                obtain ⟨c2, f2, z2, y2, ⟨n21, n20, -⟩, c1, f1, z1, y1, ⟨n10, -⟩, c0, f0, z0, y0, -, zz⟩ := O.rules
                have HO := Lib.hid O; clear O
                clear hbn
                go_wp2_with fail
                go_roundw
                case rel => exact ⟨k + 1, u, by go_num, by omega, rfl, by rw [HNX.out], rfl, by rw [HNX.out]; exact HU.out, HWS.out, BG.out, HO.out⟩
                case measure => simp [intOf]; omega
        · rw [hwb] at HWD
          have HWE : Hid (anyW n M wideB nn = true) := Lib.hid (by
            have : ∀ j, k < j → anyW n M wideB j = true := fun j => by
              induction j with
              | zero => intro h; omega
              | succ j ih =>
                intro h
                unfold anyW
                rcases Nat.lt_or_ge k j with h1 | h1
                · rw [ih h1]; rfl
                · obtain rfl : k = j := by omega
                  rw [hwb]; simp
            exact this nn hkn)
          have he : e = 271 := HOK.out.1 HWE.out
          subst he
          obtain ⟨rfl, rfl⟩ := HD1.out (by decide)
          clear hwb HD1 HD2
          go_wp2_with fail
          refine (HWD.out _).mono ?_
          rintro en wq ⟨rfl, rfl⟩
          go_wp2_with fail
          refine (awake_any _).mono ?_
          rintro en wn ⟨rfl, hbn⟩
          clear q
          replace BG := Lib.hid (BG.out.trans (hbn.mono BG.out.size))
          have O := HO.out.keep hbn
          clear HO c2 f2 z2 y2 n21 n20 c1 f1 z1 y1 n10 c0 f0 z0 y0 zz
          obtain ⟨c2, f2, z2, y2, ⟨n21, n20, -⟩, c1, f1, z1, y1, ⟨n10, -⟩, c0, f0, z0, y0, -, zz⟩ := O.rules
          have HO := Lib.hid O; clear O
          clear hbn
          go_wp2_with fail
          refine (alike_any 0 0 0 _ (by decide) (by decide) (by decide)).mono ?_
          rintro en wn ⟨rfl, hbn⟩
          replace BG := Lib.hid (BG.out.trans (hbn.mono BG.out.size))
          have O := HO.out.keep hbn
          clear HO c2 f2 z2 y2 n21 n20 c1 f1 z1 y1 n10 c0 f0 z0 y0 zz
          obtain ⟨c2, f2, z2, y2, ⟨n21, n20, -⟩, c1, f1, z1, y1, ⟨n10, -⟩, c0, f0, z0, y0, -, zz⟩ := O.rules
          have HO := Lib.hid O; clear O
          clear hbn
          go_wp2_with fail
          go_ret
          exact ⟨by first | rfl | decide | simp, HO.out.below⟩
      · obtain rfl : nn = k := by omega
        have hk1 : ¬ (nn : Int) < (nn : Int) := by omega
        have he0 : e = 0 := HOK.out.2 HW0.out
        subst he0
        obtain ⟨hd1, rfl⟩ := HD2.out rfl
        have HDV := Lib.hid hd1
        have hl2 := (near_cn D HDC.out nn).2
        clear HD1 HD2 hd1
        go_wp2_with fail
        refine (awake_any _).mono ?_
        rintro en wn ⟨rfl, hbn⟩
        replace BG := Lib.hid (BG.out.trans (hbn.mono BG.out.size))
        have O := HO.out.keep hbn
        clear HO c2 f2 z2 y2 n21 n20 c1 f1 z1 y1 n10 c0 f0 z0 y0 zz
        obtain ⟨c2, f2, z2, y2, ⟨n21, n20, -⟩, c1, f1, z1, y1, ⟨n10, -⟩, c0, f0, z0, y0, -, zz⟩ := O.rules
        have HO := Lib.hid O; clear O
        clear hbn
        go_wp2_with fail
        refine (alike_any dn u (near D nn).2 _ HDV.out HU.out hl2).mono ?_
        rintro en wn ⟨rfl, hbn⟩
        replace BG := Lib.hid (BG.out.trans (hbn.mono BG.out.size))
        have O := HO.out.keep hbn
        clear HO c2 f2 z2 y2 n21 n20 c1 f1 z1 y1 n10 c0 f0 z0 y0 zz
        obtain ⟨c2, f2, z2, y2, ⟨n21, n20, -⟩, c1, f1, z1, y1, ⟨n10, -⟩, c0, f0, z0, y0, -, zz⟩ := O.rules
        have HO := Lib.hid O; clear O
        clear hbn
        go_wp2_with fail
        go_ret
        exact ⟨by first | rfl | decide | simp, HO.out.below⟩
  · obtain ⟨rfl, rfl⟩ := hbad hr
    clear hr hok hRD hSH hWI hRS hbad
    go_enter Try.func6, Try.ntmps6
    go_wp2_with fail
    have O := (Reg.Own.nil w).alloc rfl #[.float .f64 cI, .float .f64 cO, .float .f64 cX, .float .f64 cT, .slice Ap np cp] 26
    obtain ⟨c0, f0, z0, y0, -, zz⟩ := O.rules
    have HO := Lib.hid O; clear O
    have O := HO.out.alloc (k := w.heap.size + 1) (by simp) #[.slice An nn cc, .float .f64 most] 55
    clear HO c0 f0 z0 y0 zz
    obtain ⟨c1, f1, z1, y1, ⟨n10, -⟩, c0, f0, z0, y0, -, zz⟩ := O.rules
    have HO := Lib.hid O; clear O
    refine (HG.out _ ((HP.out.below HO.out.below (Nat.le_refl _)).more HO.out.size)).mono ?_
    rintro en wg ⟨A', c', rfl, hp', hbn⟩
    have HP' := Lib.hid hp'
    clear hp'
    have O := HO.out.keep hbn
    clear HO c1 f1 z1 y1 n10 c0 f0 z0 y0 zz
    obtain ⟨c1, f1, z1, y1, ⟨n10, -⟩, c0, f0, z0, y0, -, zz⟩ := O.rules
    have HO := Lib.hid O; clear O
    clear hbn
    go_wp2_with fail
    have BG := Lib.hid ((Below.refl wg.heap.size wg).alloc (Nat.le_refl _) (.cells #[.float .f64 cI, .float .f64 cO, .float .f64 cX, .float .f64 cT, .slice A' np c'] 39))
    have O := HO.out.alloc rfl #[.float .f64 cI, .float .f64 cO, .float .f64 cX, .float .f64 cT, .slice A' np c'] 39
    clear HO c1 f1 z1 y1 n10 c0 f0 z0 y0 zz
    obtain ⟨c2, f2, z2, y2, ⟨n21, n20, -⟩, c1, f1, z1, y1, ⟨n10, -⟩, c0, f0, z0, y0, -, zz⟩ := O.rules
    have HO := Lib.hid O; clear O
    refine (HNE.out _ ((HA.out.below HO.out.below (Nat.le_refl _)).more HO.out.size) ((HN.out.below HO.out.below (Nat.le_refl _)).more HO.out.size) ((HP.out.below HO.out.below (Nat.le_refl _)).more HO.out.size)).mono ?_
    rintro en wn ⟨dn, av, rfl, hd1, hd2, hbn⟩
    have HD1 := Lib.hid hd1; have HD2 := Lib.hid hd2; clear hd1 hd2
    replace BG := Lib.hid (BG.out.trans (hbn.mono BG.out.size))
    have O := HO.out.keep hbn
    clear HO c2 f2 z2 y2 n21 n20 c1 f1 z1 y1 n10 c0 f0 z0 y0 zz
    obtain ⟨c2, f2, z2, y2, ⟨n21, n20, -⟩, c1, f1, z1, y1, ⟨n10, -⟩, c0, f0, z0, y0, -, zz⟩ := O.rules
    have HO := Lib.hid O; clear O
    clear hbn
    go_wp2_with fail
    refine (HRC.out _ _ _ ((HP'.out.below BG.out (Nat.le_refl _)).more BG.out.size)).mono ?_
    rintro en wn ⟨rfl, hbn⟩
    replace BG := Lib.hid (BG.out.trans (hbn.mono BG.out.size))
    have O := HO.out.keep hbn
    clear HO c2 f2 z2 y2 n21 n20 c1 f1 z1 y1 n10 c0 f0 z0 y0 zz
    obtain ⟨c2, f2, z2, y2, ⟨n21, n20, -⟩, c1, f1, z1, y1, ⟨n10, -⟩, c0, f0, z0, y0, -, zz⟩ := O.rules
    have HO := Lib.hid O; clear O
    clear hbn
    go_wp2_with fail
    obtain ⟨rfl, rfl⟩ := HD1.out (by decide)
    clear HD1 HD2
    go_loopw [13, 16] (fun ff t wr => t = .int .i64 0 ∧ ff = .int .i64 270 ∧ Below wg.heap.size wg wr ∧
        Reg.Own w wr [(wg.heap.size, #[.float .f64 cI, .float .f64 cO, .float .f64 cX, .float .f64 cT, .slice A' np c'], 39), (w.heap.size + 1, #[.slice An nn cc, .float .f64 most], 55), (w.heap.size, #[.float .f64 cI, .float .f64 cO, .float .f64 cX, .float .f64 cT, .slice Ap np cp], 26)]) (fun _ t _ => nn - (intOf t).toNat)
    case atStart => exact ⟨rfl, rfl, BG.out, HO.out⟩
    case round =>
      clear HO BG c2 f2 z2 y2 n21 n20 c1 f1 z1 y1 n10 c0 f0 z0 y0 zz
      obtain ⟨rfl, rfl, hbw, hown⟩ := hrel
      have O := hown
      obtain ⟨c2, f2, z2, y2, ⟨n21, n20, -⟩, c1, f1, z1, y1, ⟨n10, -⟩, c0, f0, z0, y0, -, zz⟩ := O.rules
      have HO := Lib.hid O; clear O
      have BG := Lib.hid hbw
      clear hown hbw
      by_cases hn0 : (0 : Int) < (nn : Int) <;>
      ·
        go_wp2_with fail
        refine (awake_any _).mono ?_
        rintro en wn ⟨rfl, hbn⟩
        replace BG := Lib.hid (BG.out.trans (hbn.mono BG.out.size))
        have O := HO.out.keep hbn
        clear HO c2 f2 z2 y2 n21 n20 c1 f1 z1 y1 n10 c0 f0 z0 y0 zz
        obtain ⟨c2, f2, z2, y2, ⟨n21, n20, -⟩, c1, f1, z1, y1, ⟨n10, -⟩, c0, f0, z0, y0, -, zz⟩ := O.rules
        have HO := Lib.hid O; clear O
        clear hbn
        go_wp2_with fail
        refine (alike_any 0 0 0 _ (by decide) (by decide) (by decide)).mono ?_
        rintro en wn ⟨rfl, hbn⟩
        replace BG := Lib.hid (BG.out.trans (hbn.mono BG.out.size))
        have O := HO.out.keep hbn
        clear HO c2 f2 z2 y2 n21 n20 c1 f1 z1 y1 n10 c0 f0 z0 y0 zz
        obtain ⟨c2, f2, z2, y2, ⟨n21, n20, -⟩, c1, f1, z1, y1, ⟨n10, -⟩, c0, f0, z0, y0, -, zz⟩ := O.rules
        have HO := Lib.hid O; clear O
        clear hbn
        go_wp2_with fail
        go_ret
        exact ⟨by first | rfl | decide | simp, HO.out.below⟩

theorem likeChoices_walk (cI cO cX cT n c np cp nn cc most : Nat) (A Ap An : Option Addr) (p : Nat → Int × Int × Nat) (fa : Nat → Int) (NA : Nat → Option Addr) (M C : Nat → Nat) (f : Nat → Nat → Int) (w : World)
    (hA : NameAt w w.heap.size A n fa) (hN : NamesAt w w.heap.size An nn NA M C f) (hn : n ≤ 1048576) (hM : ∀ i, i < nn → M i ≤ 1048576) (hnn : nn ≤ 1048576) (hnp : np ≤ 1048576) (hp : PairsAt w w.heap.size Ap np p) :
    Calls Try.prog 6 #[.agg #[.float .f64 cI, .float .f64 cO, .float .f64 cX, .float .f64 cT, .slice Ap np cp], .slice A n c, .agg #[.slice An nn cc, .float .f64 most]] w fun en w' => en = .returned (.bool true) ∧ Below w.heap.size w w' := by
  have hne : (chkN p np).2 = 0 ∨ (chkN p np).2 = 270 := (chk_or p np).elim (fun h => .inl h.1) .inr
  have hok : (chkN p np).2 = 0 → np ≤ 4096 ∧ Rising np p := fun h => by
    rcases chk_or p np with h1 | h1
    · exact ⟨h1.2.2.1, rising_of h1.2.2.2⟩
    · rw [h] at h1; cases h1
  have her : (chkN p np).2 = 0 → ∀ k, wideB n (M k) = false → errN p np n (M k) = 0 := fun h k hw => by
    unfold errN; rw [h, hw]; rfl
  exact likeChoices_core cI cO cX cT n c np cp nn cc most (chkN p np).1 A Ap An p fa NA M C f (fun i => tabT cI cO cX cT p np fa (f i) n (M i)) (nearE p np n nn M) (chkN p np).2 w hA hN hn hM hnn hp
    (fun w hp => given_any cI cO cX cT Ap np cp p w hnp hp)
    (fun w hA hN hp => nearest_any cI cO cX cT n c np cp nn cc A Ap An p fa NA M C f w hA hN hn hM hnn hnp hp)
    (fun A' c' w hp => rcheck_any cI cO cX cT A' np c' p w hnp hp)
    (fun i => tab_cn _ _ _ _ _ _ _)
    (fun h => ⟨hne.resolve_left h, by unfold nearE; rw [if_pos h]⟩)
    (fun h => ⟨fun hw => by unfold nearE; rw [h, hw]; rfl, fun hw => by unfold nearE; rw [h, hw]; rfl⟩)
    (fun h A' c' k w hk hA hB hp => rdist_any cI cO cX cT n (M k) c (C k) np c' A (NA k) A' p fa (f k) w hA hB hn (hM k hk) (hok h).1 hp (hok h).2)
    (fun h k w hk hw hA hB hp => share_core cI cO cX cT n (M k) c (C k) np cp A (NA k) Ap _ 0 w hn (hM k hk) fun w' hb => by
      have := dist_any cI cO cX cT n (M k) c (C k) np cp A (NA k) Ap p fa (f k) w' ((hA.below hb (Nat.le_refl _)).more hb.size) ((hB.below hb (Nat.le_refl _)).more hb.size) hn (hM k hk) hnp ((hp.below hb (Nat.le_refl _)).more hb.size)
      rw [her h k hw] at this
      exact this)
    (fun h k w hk hw hA hB hp => by
      have := within_core cI cO cX cT n (M k) c (C k) np cp most A (NA k) Ap (tabT cI cO cX cT p np fa (f k) n (M k)) 0 w (tab_cn _ _ _ _ _ _ _).1 fun w' hb => by
        have := dist_any cI cO cX cT n (M k) c (C k) np cp A (NA k) Ap p fa (f k) w' ((hA.below hb (Nat.le_refl _)).more hb.size) ((hB.below hb (Nat.le_refl _)).more hb.size) hn (hM k hk) hnp ((hp.below hb (Nat.le_refl _)).more hb.size)
        rw [her h k hw] at this
        exact this
      rw [decide_eq_true rfl, Bool.true_and] at this
      exact this)
    (fun h A' c' k w hk hA hB hp => rshare_core cI cO cX cT n (M k) c (C k) np c' A (NA k) A' _ w hn (hM k hk) fun w' hb =>
      rdist_any cI cO cX cT n (M k) c (C k) np c' A (NA k) A' p fa (f k) w' ((hA.below hb (Nat.le_refl _)).more hb.size) ((hB.below hb (Nat.le_refl _)).more hb.size) hn (hM k hk) (hok h).1 ((hp.below hb (Nat.le_refl _)).more hb.size) (hok h).2)

theorem likeChoices_own : ownKnob Try.prog.godebug = none := by kernel_rfl
theorem likeChoices_laid : laidOutB Try.prog = true := by kernel_rfl
theorem likeChoices_types : ∀ t ∈ ([26, 22, 55] : List TypeId), Try.prog.readableRec t = true ∧ t < Try.prog.types.size := by
  simp only [List.mem_cons, List.not_mem_nil, or_false, forall_eq_or_imp, forall_eq]
  exact ⟨⟨by kernel_rfl, of_decide_eq_true (by kernel_rfl)⟩, ⟨by kernel_rfl, of_decide_eq_true (by kernel_rfl)⟩, ⟨by kernel_rfl, of_decide_eq_true (by kernel_rfl)⟩⟩
set_option maxRecDepth 100000 in
theorem likeChoices_lifted (os : Os) (started : os.Started) (H : Type) (enc : TypeId × Value → H) (F : Stop.Interp) :
    ReturnsInHanded {} Try.checked os 6 .any ((Rows.OpenSpec.upto Rows.likeChoicesSpec).pre6 enc Try.prog Try.f6 Rows.likeChoicesUptoRow.domain false) (((Rows.OpenSpec.upto Rows.likeChoicesSpec).at F).post enc Try.prog Try.f6 false true false false) := by
  refine returnsInHanded_of_cond (C := Try.checked) (s := Rows.OpenSpec.upto Rows.likeChoicesSpec) (k := Rows.uptoSmall) rfl likeChoices_own started (by kernel_rfl) Try.func6
    (OpenSpec.witness (enc := enc) (C := Try.checked) (s := Rows.OpenSpec.upto Rows.likeChoicesSpec) (k := Rows.uptoSmall) rfl false ⟨#[], #[.agg #[.float .f64 0, .float .f64 0, .float .f64 0, .float .f64 0, .slice none 0 0], .slice none 0 0, .agg #[.slice none 0 0, .float .f64 0]], []⟩ 8 (by kernel_rfl) (by kernel_rfl) (by kernel_rfl) (x := ([.agg [.lit (.float .f64 0), .lit (.float .f64 0), .lit (.float .f64 0), .lit (.float .f64 0), .nil], .nil, .agg [.nil, .lit (.float .f64 0)]], [], [])) (by kernel_rfl) rfl (by kernel_rfl)) ?_
  intro W base args ds gs before hval0 hW _ hk _
  have hval : ∀ (j : Nat) t v, Try.f6.params[j]? = some t → args[j]? = some v → Value.okWide Try.prog W .any base t v := hval0
  have hW' := hW
  obtain ⟨p, q, hA0, hV, rfl, hfz, hnd⟩ := hW
  have hA : DataW.TrodAll enc Try.prog W 0 (fun _ => true) true Try.f6.params.toList args.toList ds p := hA0
  obtain ⟨rfl, rfl⟩ := trodVars_none hV
  have hpost : ∀ W', Below W.heap.size W W' → Rows.likeChoicesSpec.post enc Try.prog Try.f6 false true false false W args (.bool true) W' := fun W' hb => by
    have hlen : ds.length = 3 := by have hh := hA; rw [Try.params6] at hh; obtain ⟨_, _, d0, ds0, _, _, _, rfl, _, _, hh⟩ := trodAll_cons hh; obtain ⟨_, _, d1, ds1, _, _, _, rfl, _, _, hh⟩ := trodAll_cons hh; obtain ⟨_, _, d2, ds2, _, _, _, rfl, _, _, hh⟩ := trodAll_cons hh; obtain ⟨_, rfl, _⟩ := trodAll_nil hh; simp
    obtain ⟨e0, e1, e2, rfl⟩ : ∃ e0 e1 e2, ds = [e0, e1, e2] := by match ds, hlen with | [e0, e1, e2], _ => exact ⟨e0, e1, e2, rfl⟩
    exact law_post likeChoices_laid rfl hW' (by rw [Try.params6]; exact likeChoices_types) (tb := 4) (by kernel_rfl) Try.underlying4 rfl rfl rfl hb
  rw [Try.params6] at hA hval
  obtain ⟨v0, vs0, d0, ds0, p0, q0, hargs, rfl, rfl, h0, r0⟩ := trodAll_cons hA
  obtain ⟨v1, vs1, d1, ds1, p1, q1, rfl, rfl, rfl, h1, r1⟩ := trodAll_cons r0
  obtain ⟨v2, vs2, d2, ds2, p2, q2, rfl, rfl, rfl, h2, r2⟩ := trodAll_cons r1
  obtain ⟨rfl, rfl, rfl⟩ := trodAll_nil r2
  obtain rfl : args = #[v0, v1, v2] := by cases args; simp_all
  obtain ⟨cI, cO, cX, cT, Ap, np, cp, p, rfl, bP, nP, lI, lO, lX, lT⟩ := open_costs Try.underlying26 (by kernel_rfl) (by kernel_rfl) Try.underlying23 Try.underlying23 Try.underlying23 Try.underlying23 Try.underlying24 Try.underlying35 (by kernel_rfl) (by kernel_rfl) Try.underlying21 Try.underlying21 Try.underlying33 (hval 0 26 v0 rfl rfl) h0
  obtain ⟨A, n, c, fa, rfl, bA, nA⟩ := open_name Try.underlying22 Try.underlying21 (by kernel_rfl) (hval 1 22 v1 rfl rfl) h1
  obtain ⟨An, nn, cc, most, NA, M, C, f, rfl, bN, bM, nN⟩ := open_choice Try.underlying55 (by kernel_rfl) (by kernel_rfl) Try.underlying53 Try.underlying22 (by kernel_rfl) Try.underlying21 (by kernel_rfl) Try.underlying23 (hval 2 55 v2 rfl rfl) h2
  have hbk := upto_bound hk
  simp only [Rows.uptoBulkAll, List.cons_append, List.nil_append, List.append_nil] at hbk
  refine (likeChoices_walk cI cO cX cT n c np cp nn cc most A Ap An p fa NA M C f W nA nN (by omega) (fun i hi => by have := bM i hi; omega) (by omega) (by omega) nP).mono fun e W' ⟨he, hg⟩ => ?_
  subst he
  exact ⟨_, rfl, hpost _ hg⟩

theorem likeChoices_holds : Rows.LikeChoicesUptoSaid :=
  OpenClaim.holds_of_cond 6 Try.f6 rfl rfl rfl rfl rfl rfl rfl ⟨rfl, rfl, rfl, rfl, rfl⟩ rfl rfl rfl rfl rfl (by kernel_rfl) Try.func6 (by kernel_rfl)
    (of_decide_eq_true (by kernel_rfl)) (by unfold Func.isWrapper; first | (rw [if_pos (by decide +kernel)]; kernel_rfl) | (rw [if_neg (by decide +kernel)]; exact ⟨rfl, rfl⟩))
    (fun os started H enc _ F => likeChoices_lifted os started H enc F)
#print axioms likeChoices_holds

end Go.Proofs.Ytkhdemaanakbeaa
