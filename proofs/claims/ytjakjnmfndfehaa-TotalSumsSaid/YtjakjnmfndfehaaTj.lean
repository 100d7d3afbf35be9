/- A term is added to a sum: the program's walk. Conditions: one or two finite numbers. -/
import Derived.Test.YtjakjnmfndfehaaTi
namespace Go.Proofs.Ytjakjnmfndfehaa
open Go.RowKit Go.Pst
set_option maxRecDepth 20000
set_option linter.unusedSimpArgs false
set_option linter.unusedVariables false
attribute [local go_sem] run_fmul

/-- Powers and signs of the first k numbers. -/
def eSum (f : Nat → Nat) (d : Int) : Nat → Int
  | 0 => d
  | k + 1 => eSum f d k + (frE (f k) - 53)
def xSum (f : Nat → Nat) : Nat → Bool
  | 0 => false
  | k + 1 => xSum f k != negB (f k)
def sz (f : Nat → Nat) (j k : Nat) : Nat := if j < k then frM (f j) else 1

theorem eSum_bd {f : Nat → Nat} {d : Int} : ∀ k, (∀ j, j < k → finB (f j)) → d - 1127 * k ≤ eSum f d k ∧ eSum f d k ≤ d + 971 * k
  | 0, _ => by unfold eSum; omega
  | k + 1, h => by
    have h1 := eSum_bd (f := f) (d := d) k fun j hj => h j (by omega)
    have h2 := frE_bd (h k (by omega))
    unfold eSum; omega

def K46 : Nat := 4607
def K44 : Nat := 4400
theorem h71_two : H71 = 2 ^ K46 := by
  unfold H71
  have e : ∀ a b, 2 ^ 63 * W64 ^ a = 2 ^ b ∨ 63 + 64 * a ≠ b := fun a b => by
    by_cases h : 63 + 64 * a = b
    · left; rw [w64_two, ← Nat.pow_add, h]
    · exact .inr h
  exact (e 71 K46).resolve_right (fun h => h (by decide))
theorem small_nat {N : Nat} (h : N < 2 ^ K46) : Small (N : Int) := by
  unfold Small
  rw [h71_two]
  generalize (2 : Nat) ^ K46 = X at *
  omega
theorem pwZ_lt {M k : Nat} {q : Int} (h : M < 2 ^ k) (hq : q ≤ (K44 : Nat) - (k : Nat)) (hk : k ≤ K44) : pwZ M q < 2 ^ K46 := by
  unfold pwZ
  have h1 : 2 ^ K44 < 2 ^ K46 := Nat.pow_lt_pow_right (by omega) (by decide)
  split
  · have h2 : 2 ^ k ≤ 2 ^ K44 := Nat.pow_le_pow_right (by omega) hk
    have := Nat.div_le_self M (2 ^ (-q).toNat)
    exact Nat.lt_of_le_of_lt this (Nat.lt_of_lt_of_le h (Nat.le_of_lt (Nat.lt_of_le_of_lt h2 h1)))
  · have h2 : M * 2 ^ q.toNat < 2 ^ k * 2 ^ q.toNat := Nat.mul_lt_mul_of_pos_right h (Nat.two_pow_pos _)
    rw [← Nat.pow_add] at h2
    have h3 : 2 ^ (k + q.toNat) ≤ 2 ^ K44 := Nat.pow_le_pow_right (by omega) (by omega)
    exact Nat.lt_of_lt_of_le h2 (Nat.le_of_lt (Nat.lt_of_le_of_lt h3 h1))

theorem wide_new (w : World) (U : Nat → Nat) {g : Nat} (hg : w.heap.size = g) : WideAt (w.alloc (.cells (wcells U).toArray 82)) g 0 U := by
  subst hg
  exact ⟨by simp, fun k => frozen_of_row _ _ _ _ _ (heap_alloc_new w _), fun i hi => by
    rw [cell_of_row _ _ _ _ _ _ (heap_alloc_new w _), Nat.zero_add, List.getElem?_toArray]; exact wcells_get U hi⟩

def TermPost (B : Nat) (d : Int) (p l nn m bl : Bool) (N : Nat) (sum : Int) (w : World) (en : Ending) (w' : World) : Prop :=
  (∃ v, en = .returned v) ∧ Fr w w' B ∧ ∃ V', ExAt w' B V' d p l nn true (m || decide (N ≠ 0) || !bl) ∧ WIs V' (sum + sgn bl N)



set_option maxHeartbeats 4000000 in
theorem term_any (B c n a o : Nat) (V : Nat → Nat) (f : Nat → Nat) (d : Int) (p l nn s m : Bool) (w : World) (hE : ExAt w B V d p l nn s m) (hn : n = 1 ∨ n = 2) (ha : a < w.heap.size)
    (hA : ∀ k, k < n → w.cell? ⟨a, o + k, none⟩ = some (.float .f64 (f k))) (hf : ∀ k, k < n → finB (f k)) (hd : 1074 * (n : Int) ≤ d ∧ d ≤ 2148) (sum : Int) (hV : WIs V sum) :
    Calls Try.prog 77 #[.pointer (some ⟨B, 0, none⟩), .slice (some ⟨a, o, none⟩) n c] w (TermPost B d p l nn m (xSum f n) (pwZ (sz f 0 n * sz f 1 n) (eSum f d n)) sum w) := by
  have HE := Lib.hid hE; have HA := Lib.hid hA; have HF := Lib.hid hf; have HV := Lib.hid hV
  have cd := hE.cd
  have z := hE.wide.lt
  clear hE hA hf hV
  go_enter Try.func77, Try.ntmps77
  go_wp2_with fail
  go_loopw [5, 6, 19] (fun pw bl t wr => ∃ k : Nat, t = .int .i64 k ∧ k ≤ n ∧ pw = .int .i64 (eSum f d k) ∧ bl = .bool (xSum f k) ∧ wr = w.alloc (.cells #[.int .u64 (sz f 0 k : Nat), .int .u64 (sz f 1 k : Nat)] 111)) (fun _ _ t _ => n - (intOf t).toNat)
  case atStart => exact ⟨0, rfl, by omega, rfl, rfl, rfl⟩
  case round =>
    clear cd
    obtain ⟨k, rfl, hk, rfl, rfl, rfl⟩ := hrel
    by_cases hkn : k < n
    · obtain rfl | rfl : k = 0 ∨ k = 1 := by omega
      ·
        have hx := HF.out 0 (by omega)
        have c0 := HA.out 0 (by omega)
        rw [Nat.add_zero] at c0
        have h3 : (0 : Int) < (n : Int) := by omega
        have hbd := eSum_bd (f := f) (d := d) 0 (fun j hj => HF.out j (by omega))
        have hfe := frE_bd hx
        have hfm := frM_lt (f 0)
        have hu : ∀ w, arU .mul w (frF (f 0)) 4845873199050653696 = fl (frM (f 0)) := arU_some (frF_mul hx)
        have hno : (arD .mul (frF (f 0)) 4845873199050653696).isNone = false := arN_some (frF_mul hx)
        have hcv : ∀ w, (convert 24 80 (.float .f64 (fl (frM (f 0))))).run Try.prog w = .ok (.int .u64 ((frM (f 0) : Nat) : Int)) w := fun w => run_convert_float_int w _ _ .f64 .u64 _ _ (by kernel_rfl) Try.underlying80 (fl_u64 hfm)
        have HAB := Lib.hid fun w => mabs_any (f 0) w hx.1
        have HFR := Lib.hid fun w => frexp_abs (f 0) w hx
        have HSB := Lib.hid fun w => signbit_any (f 0) w hx.1
        have e1 : eSum f d (0 + 1) = eSum f d 0 + (frE (f 0) - 53) := rfl
        have e2 : xSum f (0 + 1) = (xSum f 0 != negB (f 0)) := rfl
        have e3 : sz f 0 (0 + 1) = frM (f 0) := rfl
        have e4 : sz f 1 (0 + 1) = 1 := rfl
        obtain ⟨pw, hpw⟩ : ∃ p, p = eSum f d 0 := ⟨_, rfl⟩
        obtain ⟨bl, hbl⟩ : ∃ p, p = xSum f 0 := ⟨_, rfl⟩
        rw [← hpw] at hbd e1 ⊢
        rw [← hbl] at e2 ⊢
        generalize frF (f 0) = F at *
        generalize frE (f 0) = E at *
        generalize frM (f 0) = M at *
        generalize negB (f 0) = g at *
        generalize f 0 = x at *
        have E1 := Lib.hid e1; have E2 := Lib.hid e2; have E3 := Lib.hid e3; have E4 := Lib.hid e4

        clear e1 e2 e3 e4 hpw hbl hx
        have hw := wIf_off
        go_wp2_with fail
        refine (HAB.out _).mono ?_
        rintro en w' ⟨rfl, rfl⟩
        go_wp2_with fail
        refine (HFR.out _).mono ?_
        rintro en w' ⟨rfl, rfl⟩
        go_wp2_with fail
        refine (HSB.out _).mono ?_
        rintro en w' ⟨rfl, rfl⟩
        go_wp2_with fail
        go_roundw
        case rel => exact ⟨0 + 1, by go_num, by omega, by rw [E1.out]; try rfl, by rw [E2.out]; try rfl, by rw [E3.out, E4.out]; try rfl⟩
        case measure => (simp [intOf] <;> omega)
      ·
        have hx := HF.out 1 (by omega)
        have c0 := HA.out 1 (by omega)
        skip
        have h3 : (1 : Int) < (n : Int) := by omega
        have hbd := eSum_bd (f := f) (d := d) 1 (fun j hj => HF.out j (by omega))
        have hfe := frE_bd hx
        have hfm := frM_lt (f 1)
        have hu : ∀ w, arU .mul w (frF (f 1)) 4845873199050653696 = fl (frM (f 1)) := arU_some (frF_mul hx)
        have hno : (arD .mul (frF (f 1)) 4845873199050653696).isNone = false := arN_some (frF_mul hx)
        have hcv : ∀ w, (convert 24 80 (.float .f64 (fl (frM (f 1))))).run Try.prog w = .ok (.int .u64 ((frM (f 1) : Nat) : Int)) w := fun w => run_convert_float_int w _ _ .f64 .u64 _ _ (by kernel_rfl) Try.underlying80 (fl_u64 hfm)
        have HAB := Lib.hid fun w => mabs_any (f 1) w hx.1
        have HFR := Lib.hid fun w => frexp_abs (f 1) w hx
        have HSB := Lib.hid fun w => signbit_any (f 1) w hx.1
        have e1 : eSum f d (1 + 1) = eSum f d 1 + (frE (f 1) - 53) := rfl
        have e2 : xSum f (1 + 1) = (xSum f 1 != negB (f 1)) := rfl
        have e3 : sz f 0 (1 + 1) = sz f 0 1 := rfl
        have e4 : sz f 1 (1 + 1) = frM (f 1) := rfl
        obtain ⟨pw, hpw⟩ : ∃ p, p = eSum f d 1 := ⟨_, rfl⟩
        obtain ⟨bl, hbl⟩ : ∃ p, p = xSum f 1 := ⟨_, rfl⟩
        rw [← hpw] at hbd e1 ⊢
        rw [← hbl] at e2 ⊢
        generalize frF (f 1) = F at *
        generalize frE (f 1) = E at *
        generalize frM (f 1) = M at *
        generalize negB (f 1) = g at *
        generalize f 1 = x at *
        have E1 := Lib.hid e1; have E2 := Lib.hid e2; have E3 := Lib.hid e3; have E4 := Lib.hid e4

        clear e1 e2 e3 e4 hpw hbl hx
        have hw := wIf_off
        go_wp2_with fail
        refine (HAB.out _).mono ?_
        rintro en w' ⟨rfl, rfl⟩
        go_wp2_with fail
        refine (HFR.out _).mono ?_
        rintro en w' ⟨rfl, rfl⟩
        go_wp2_with fail
        refine (HSB.out _).mono ?_
        rintro en w' ⟨rfl, rfl⟩
        go_wp2_with fail
        go_roundw
        case rel => exact ⟨1 + 1, by go_num, by omega, by rw [E1.out]; try rfl, by rw [E2.out]; try rfl, by rw [E3.out, E4.out]; try rfl⟩
        case measure => (simp [intOf] <;> omega)
    · obtain rfl : k = n := by omega
      have hs0 : sz f 0 k < 2 ^ 53 := by unfold sz; split; exact frM_lt _; decide
      have hs1 : sz f 1 k < 2 ^ 53 := by unfold sz; split; exact frM_lt _; decide
      have hbd := eSum_bd (f := f) (d := d) k HF.out
      have hNS := small_nat (pwZ_lt (M := sz f 0 k * sz f 1 k) (k := 106) (q := eSum f d k) (by
        have := Nat.mul_lt_mul_of_lt_of_le hs0 (Nat.le_of_lt hs1) (by decide)
        rw [← Nat.pow_add] at this; exact this) (by unfold K44; omega) (by decide))
      have HP := Lib.hid fun w => product_any (sz f 0 k) (sz f 1 k) (eSum f d k) w (by unfold W64; omega) (by unfold W64; omega) (by omega) (by omega)
      obtain ⟨N, hN⟩ : ∃ N, N = pwZ (sz f 0 k * sz f 1 k) (eSum f d k) := ⟨_, rfl⟩
      rw [← hN] at HP hNS
      have HN := Lib.hid hN
      obtain ⟨s0, g0⟩ : ∃ x, x = sz f 0 k := ⟨_, rfl⟩
      obtain ⟨s1, g1⟩ : ∃ x, x = sz f 1 k := ⟨_, rfl⟩
      obtain ⟨q, g2⟩ : ∃ x, x = eSum f d k := ⟨_, rfl⟩
      obtain ⟨bl, g3⟩ : ∃ x, x = xSum f k := ⟨_, rfl⟩
      rw [← g0, ← g1, ← g2] at HP
      rw [← g0, ← g1, ← g2, ← g3]
      have HBL := Lib.hid g3
      have HNS := Lib.hid hNS
      clear hN hs0 hs1 g0 g1 g2 g3 hbd hNS
      go_wp2_with fail
      refine (HP.out _).mono ?_
      rintro en w1 hpp
      obtain ⟨rfl, hb1⟩ := hpp
      have hal := (Below.refl w.heap.size w).alloc (Nat.le_refl _) (.cells #[.int .u64 (s0 : Nat), .int .u64 (s1 : Nat)] 111)
      have E1 := Lib.hid ((HE.out.below hal).below hb1)
      have F1 := Lib.hid (((Fr.refl w B).after hal (Nat.le_refl _)).after hb1 (by simp))
      have z1 : w.heap.size < w1.heap.size := by have := hb1.size; simp at this; omega
      have hBn : B < w1.heap.size := by omega
      have hne : B ≠ w1.heap.size := by omega
      have c6 := E1.out.cs
      have c7 := E1.out.cm
      have f6 := E1.out.wide.fr 76
      have f7 := E1.out.wide.fr 77
      clear hal hb1 HP
      cases m
      · have W2 := Lib.hid (wide_new (w1.setCell ⟨B, 76, none⟩ (.bool true)) (natW N) (Reg.size_setCell _ _ _))
        go_wp2_with (with_reducible refine wpList_store_row rfl 82 _ _ rfl w1.heap.size (wcells (natW N)).toArray rfl rfl 82 Try.zeroCells82 (heap_alloc_new _ _) (info72' _) (by rw [wcells_zero]; simp [wcells]) (all_oneCell_toArray (wcells_one _)) ?_
                     rw [World.setRow_alloc_new])
        refine (sign_any w1.heap.size 0 (natW N) N _ W2.out natW_is HNS.out).mono ?_
        rintro en w2 ⟨rfl, rfl⟩
        clear W2
        by_cases hN0 : N = 0
        · have hsg : sgnI (N : Int) = 0 := by rw [hN0]; rfl
          have HZ := Lib.hid hN0
          rw [hsg]
          clear hN0 hsg
          cases bl
          ·
            have E3 := Lib.hid ((E1.out.setS (b := true)).setM (b := true))
            have F3 := Lib.hid ((F1.out.setB 76 (.bool true)).setB 77 (.bool true))
            have hz3 : ((w1.setCell ⟨B, 76, none⟩ (.bool true)).setCell ⟨B, 77, none⟩ (.bool true)).heap.size = w1.heap.size := by rw [Reg.size_setCell, Reg.size_setCell]
            have hal3 := (Below.refl _ ((w1.setCell ⟨B, 76, none⟩ (.bool true)).setCell ⟨B, 77, none⟩ (.bool true))).alloc (Nat.le_refl _) (.cells (wcells (natW N)).toArray 82)
            have E4 := Lib.hid (E3.out.below hal3)
            have F4 := Lib.hid (F3.out.after hal3 (by rw [hz3]; omega))
            have W4 := Lib.hid (wide_new ((w1.setCell ⟨B, 76, none⟩ (.bool true)).setCell ⟨B, 77, none⟩ (.bool true)) (natW N) hz3)
            clear hal3 hz3 E3 F3
            have WA := Lib.hid (add_any B 0 w1.heap.size 0 V (natW N) _ E4.out.wide W4.out hne HV.out.1 natW_is.1)
            go_wp2_with (with_reducible refine wpList_store_row rfl 82 _ _ rfl w1.heap.size (wcells (natW N)).toArray rfl rfl 82 Try.zeroCells82 (heap_alloc_new _ _) (info72' _) (by rw [wcells_zero]; simp [wcells]) (all_oneCell_toArray (wcells_one _)) ?_; rw [World.setRow_alloc_new])
            refine WA.out.mono ?_
            rintro en w5 ⟨⟨v5, rfl⟩, W5, C5⟩
            have E5 := Lib.hid (E4.out.chg C5 W5)
            have F5 := Lib.hid (F4.out.chgB C5)
            clear W5 C5 WA
            go_wp2_with fail
            go_end0
            refine ⟨⟨_, rfl⟩, F5.out, addW V (natW N), ?_, ?_⟩
            rotate_left
            · rw [← HBL.out, ← HN.out]; exact HV.out.add natW_is
            · rw [← HBL.out, ← HN.out]
              have e5 := E5.out
              have hz := HZ.out
              simpa [hz] using e5
          ·
            have E3 := Lib.hid ((E1.out.setS (b := true)).setM (b := false))
            have F3 := Lib.hid ((F1.out.setB 76 (.bool true)).setB 77 (.bool false))
            have hz3 : ((w1.setCell ⟨B, 76, none⟩ (.bool true)).setCell ⟨B, 77, none⟩ (.bool false)).heap.size = w1.heap.size := by rw [Reg.size_setCell, Reg.size_setCell]
            have hal3 := (Below.refl _ ((w1.setCell ⟨B, 76, none⟩ (.bool true)).setCell ⟨B, 77, none⟩ (.bool false))).alloc (Nat.le_refl _) (.cells (wcells (natW N)).toArray 82)
            have E4 := Lib.hid (E3.out.below hal3)
            have F4 := Lib.hid (F3.out.after hal3 (by rw [hz3]; omega))
            have W4 := Lib.hid (wide_new ((w1.setCell ⟨B, 76, none⟩ (.bool true)).setCell ⟨B, 77, none⟩ (.bool false)) (natW N) hz3)
            clear hal3 hz3 E3 F3
            have NA := Lib.hid (negate_any w1.heap.size 0 (natW N) _ W4.out (natW_is (N := N)).1)
            go_wp2_with (with_reducible refine wpList_store_row rfl 82 _ _ rfl w1.heap.size (wcells (natW N)).toArray rfl rfl 82 Try.zeroCells82 (heap_alloc_new _ _) (info72' _) (by rw [wcells_zero]; simp [wcells]) (all_oneCell_toArray (wcells_one _)) ?_; rw [World.setRow_alloc_new])
            refine NA.out.mono ?_
            rintro en w4 ⟨⟨v4, rfl⟩, W5, C5⟩
            have W6 := Lib.hid W5
            have E6 := Lib.hid (E4.out.grown C5.g (fun e => hne (by injection e with e; exact e.symm)))
            have F6 := Lib.hid (F4.out.chgN C5 (Nat.le_of_lt z1))
            clear W5 C5 NA E4 F4 W4
            have WA := Lib.hid (add_any B 0 w1.heap.size 0 V (negW (natW N)) _ E6.out.wide W6.out hne HV.out.1 (natW_is (N := N)).neg.1)
            go_wp2_with (with_reducible refine wpList_store_row rfl 82 _ _ rfl w1.heap.size (wcells (natW N)).toArray rfl rfl 82 Try.zeroCells82 (heap_alloc_new _ _) (info72' _) (by rw [wcells_zero]; simp [wcells]) (all_oneCell_toArray (wcells_one _)) ?_; rw [World.setRow_alloc_new])
            refine WA.out.mono ?_
            rintro en w5 ⟨⟨v5, rfl⟩, W5, C5⟩
            have E5 := Lib.hid (E6.out.chg C5 W5)
            have F5 := Lib.hid (F6.out.chgB C5)
            clear W5 C5 WA
            go_wp2_with fail
            go_end0
            refine ⟨⟨_, rfl⟩, F5.out, addW V (negW (natW N)), ?_, ?_⟩
            rotate_left
            · rw [← HBL.out, ← HN.out]; exact HV.out.add (natW_is (N := N)).neg
            · rw [← HBL.out, ← HN.out]
              have e5 := E5.out
              have hz := HZ.out
              simpa [hz] using e5
        · have hsg : sgnI (N : Int) = 1 := by unfold sgnI; rw [if_neg (by omega), if_neg (by omega)]
          have HZ := Lib.hid hN0
          rw [hsg]
          clear hN0 hsg
          cases bl
          ·
            have E3 := Lib.hid ((E1.out.setS (b := true)).setM (b := true))
            have F3 := Lib.hid ((F1.out.setB 76 (.bool true)).setB 77 (.bool true))
            have hz3 : ((w1.setCell ⟨B, 76, none⟩ (.bool true)).setCell ⟨B, 77, none⟩ (.bool true)).heap.size = w1.heap.size := by rw [Reg.size_setCell, Reg.size_setCell]
            have hal3 := (Below.refl _ ((w1.setCell ⟨B, 76, none⟩ (.bool true)).setCell ⟨B, 77, none⟩ (.bool true))).alloc (Nat.le_refl _) (.cells (wcells (natW N)).toArray 82)
            have E4 := Lib.hid (E3.out.below hal3)
            have F4 := Lib.hid (F3.out.after hal3 (by rw [hz3]; omega))
            have W4 := Lib.hid (wide_new ((w1.setCell ⟨B, 76, none⟩ (.bool true)).setCell ⟨B, 77, none⟩ (.bool true)) (natW N) hz3)
            clear hal3 hz3 E3 F3
            have WA := Lib.hid (add_any B 0 w1.heap.size 0 V (natW N) _ E4.out.wide W4.out hne HV.out.1 natW_is.1)
            go_wp2_with (with_reducible refine wpList_store_row rfl 82 _ _ rfl w1.heap.size (wcells (natW N)).toArray rfl rfl 82 Try.zeroCells82 (heap_alloc_new _ _) (info72' _) (by rw [wcells_zero]; simp [wcells]) (all_oneCell_toArray (wcells_one _)) ?_; rw [World.setRow_alloc_new])
            refine WA.out.mono ?_
            rintro en w5 ⟨⟨v5, rfl⟩, W5, C5⟩
            have E5 := Lib.hid (E4.out.chg C5 W5)
            have F5 := Lib.hid (F4.out.chgB C5)
            clear W5 C5 WA
            go_wp2_with fail
            go_end0
            refine ⟨⟨_, rfl⟩, F5.out, addW V (natW N), ?_, ?_⟩
            rotate_left
            · rw [← HBL.out, ← HN.out]; exact HV.out.add natW_is
            · rw [← HBL.out, ← HN.out]
              have e5 := E5.out
              have hz := HZ.out
              simpa [hz] using e5
          ·
            have E3 := Lib.hid ((E1.out.setS (b := true)).setM (b := true))
            have F3 := Lib.hid ((F1.out.setB 76 (.bool true)).setB 77 (.bool true))
            have hz3 : ((w1.setCell ⟨B, 76, none⟩ (.bool true)).setCell ⟨B, 77, none⟩ (.bool true)).heap.size = w1.heap.size := by rw [Reg.size_setCell, Reg.size_setCell]
            have hal3 := (Below.refl _ ((w1.setCell ⟨B, 76, none⟩ (.bool true)).setCell ⟨B, 77, none⟩ (.bool true))).alloc (Nat.le_refl _) (.cells (wcells (natW N)).toArray 82)
            have E4 := Lib.hid (E3.out.below hal3)
            have F4 := Lib.hid (F3.out.after hal3 (by rw [hz3]; omega))
            have W4 := Lib.hid (wide_new ((w1.setCell ⟨B, 76, none⟩ (.bool true)).setCell ⟨B, 77, none⟩ (.bool true)) (natW N) hz3)
            clear hal3 hz3 E3 F3
            have NA := Lib.hid (negate_any w1.heap.size 0 (natW N) _ W4.out (natW_is (N := N)).1)
            go_wp2_with (with_reducible refine wpList_store_row rfl 82 _ _ rfl w1.heap.size (wcells (natW N)).toArray rfl rfl 82 Try.zeroCells82 (heap_alloc_new _ _) (info72' _) (by rw [wcells_zero]; simp [wcells]) (all_oneCell_toArray (wcells_one _)) ?_; rw [World.setRow_alloc_new])
            refine NA.out.mono ?_
            rintro en w4 ⟨⟨v4, rfl⟩, W5, C5⟩
            have W6 := Lib.hid W5
            have E6 := Lib.hid (E4.out.grown C5.g (fun e => hne (by injection e with e; exact e.symm)))
            have F6 := Lib.hid (F4.out.chgN C5 (Nat.le_of_lt z1))
            clear W5 C5 NA E4 F4 W4
            have WA := Lib.hid (add_any B 0 w1.heap.size 0 V (negW (natW N)) _ E6.out.wide W6.out hne HV.out.1 (natW_is (N := N)).neg.1)
            go_wp2_with (with_reducible refine wpList_store_row rfl 82 _ _ rfl w1.heap.size (wcells (natW N)).toArray rfl rfl 82 Try.zeroCells82 (heap_alloc_new _ _) (info72' _) (by rw [wcells_zero]; simp [wcells]) (all_oneCell_toArray (wcells_one _)) ?_; rw [World.setRow_alloc_new])
            refine WA.out.mono ?_
            rintro en w5 ⟨⟨v5, rfl⟩, W5, C5⟩
            have E5 := Lib.hid (E6.out.chg C5 W5)
            have F5 := Lib.hid (F6.out.chgB C5)
            clear W5 C5 WA
            go_wp2_with fail
            go_end0
            refine ⟨⟨_, rfl⟩, F5.out, addW V (negW (natW N)), ?_, ?_⟩
            rotate_left
            · rw [← HBL.out, ← HN.out]; exact HV.out.add (natW_is (N := N)).neg
            · rw [← HBL.out, ← HN.out]
              have e5 := E5.out
              have hz := HZ.out
              simpa [hz] using e5
      · have HZ : Hid True := Lib.hid trivial
        cases bl
        ·
          skip
          have E3 := Lib.hid ((E1.out.setS (b := true)).setM (b := true))
          have F3 := Lib.hid ((F1.out.setB 76 (.bool true)).setB 77 (.bool true))
          have hz3 : ((w1.setCell ⟨B, 76, none⟩ (.bool true)).setCell ⟨B, 77, none⟩ (.bool true)).heap.size = w1.heap.size := by rw [Reg.size_setCell, Reg.size_setCell]
          have hal3 := (Below.refl _ ((w1.setCell ⟨B, 76, none⟩ (.bool true)).setCell ⟨B, 77, none⟩ (.bool true))).alloc (Nat.le_refl _) (.cells (wcells (natW N)).toArray 82)
          have E4 := Lib.hid (E3.out.below hal3)
          have F4 := Lib.hid (F3.out.after hal3 (by rw [hz3]; omega))
          have W4 := Lib.hid (wide_new ((w1.setCell ⟨B, 76, none⟩ (.bool true)).setCell ⟨B, 77, none⟩ (.bool true)) (natW N) hz3)
          clear hal3 hz3 E3 F3
          have WA := Lib.hid (add_any B 0 w1.heap.size 0 V (natW N) _ E4.out.wide W4.out hne HV.out.1 natW_is.1)
          go_wp2_with (with_reducible refine wpList_store_row rfl 82 _ _ rfl w1.heap.size (wcells (natW N)).toArray rfl rfl 82 Try.zeroCells82 (heap_alloc_new _ _) (info72' _) (by rw [wcells_zero]; simp [wcells]) (all_oneCell_toArray (wcells_one _)) ?_; rw [World.setRow_alloc_new])
          refine WA.out.mono ?_
          rintro en w5 ⟨⟨v5, rfl⟩, W5, C5⟩
          have E5 := Lib.hid (E4.out.chg C5 W5)
          have F5 := Lib.hid (F4.out.chgB C5)
          clear W5 C5 WA
          go_wp2_with fail
          go_end0
          refine ⟨⟨_, rfl⟩, F5.out, addW V (natW N), ?_, ?_⟩
          rotate_left
          · rw [← HBL.out, ← HN.out]; exact HV.out.add natW_is
          · rw [← HBL.out, ← HN.out]
            have e5 := E5.out
            have hz := HZ.out
            simpa [hz] using e5
        ·
          skip
          have E3 := Lib.hid ((E1.out.setS (b := true)).setM (b := true))
          have F3 := Lib.hid ((F1.out.setB 76 (.bool true)).setB 77 (.bool true))
          have hz3 : ((w1.setCell ⟨B, 76, none⟩ (.bool true)).setCell ⟨B, 77, none⟩ (.bool true)).heap.size = w1.heap.size := by rw [Reg.size_setCell, Reg.size_setCell]
          have hal3 := (Below.refl _ ((w1.setCell ⟨B, 76, none⟩ (.bool true)).setCell ⟨B, 77, none⟩ (.bool true))).alloc (Nat.le_refl _) (.cells (wcells (natW N)).toArray 82)
          have E4 := Lib.hid (E3.out.below hal3)
          have F4 := Lib.hid (F3.out.after hal3 (by rw [hz3]; omega))
          have W4 := Lib.hid (wide_new ((w1.setCell ⟨B, 76, none⟩ (.bool true)).setCell ⟨B, 77, none⟩ (.bool true)) (natW N) hz3)
          clear hal3 hz3 E3 F3
          have NA := Lib.hid (negate_any w1.heap.size 0 (natW N) _ W4.out (natW_is (N := N)).1)
          go_wp2_with (with_reducible refine wpList_store_row rfl 82 _ _ rfl w1.heap.size (wcells (natW N)).toArray rfl rfl 82 Try.zeroCells82 (heap_alloc_new _ _) (info72' _) (by rw [wcells_zero]; simp [wcells]) (all_oneCell_toArray (wcells_one _)) ?_; rw [World.setRow_alloc_new])
          refine NA.out.mono ?_
          rintro en w4 ⟨⟨v4, rfl⟩, W5, C5⟩
          have W6 := Lib.hid W5
          have E6 := Lib.hid (E4.out.grown C5.g (fun e => hne (by injection e with e; exact e.symm)))
          have F6 := Lib.hid (F4.out.chgN C5 (Nat.le_of_lt z1))
          clear W5 C5 NA E4 F4 W4
          have WA := Lib.hid (add_any B 0 w1.heap.size 0 V (negW (natW N)) _ E6.out.wide W6.out hne HV.out.1 (natW_is (N := N)).neg.1)
          go_wp2_with (with_reducible refine wpList_store_row rfl 82 _ _ rfl w1.heap.size (wcells (natW N)).toArray rfl rfl 82 Try.zeroCells82 (heap_alloc_new _ _) (info72' _) (by rw [wcells_zero]; simp [wcells]) (all_oneCell_toArray (wcells_one _)) ?_; rw [World.setRow_alloc_new])
          refine WA.out.mono ?_
          rintro en w5 ⟨⟨v5, rfl⟩, W5, C5⟩
          have E5 := Lib.hid (E6.out.chg C5 W5)
          have F5 := Lib.hid (F6.out.chgB C5)
          clear W5 C5 WA
          go_wp2_with fail
          go_end0
          refine ⟨⟨_, rfl⟩, F5.out, addW V (negW (natW N)), ?_, ?_⟩
          rotate_left
          · rw [← HBL.out, ← HN.out]; exact HV.out.add (natW_is (N := N)).neg
          · rw [← HBL.out, ← HN.out]
            have e5 := E5.out
            have hz := HZ.out
            simpa [hz] using e5
end Go.Proofs.Ytjakjnmfndfehaa
