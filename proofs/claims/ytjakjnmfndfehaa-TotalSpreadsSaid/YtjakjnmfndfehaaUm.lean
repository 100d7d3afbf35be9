/- The document's exact sum of products: walk. Condition: as many numbers on both sides, at most 65536, of 64 bits. -/
import Derived.Test.YtjakjnmfndfehaaUl
namespace Go.Pst
open Go Ieee Go.RowKit Go.Proofs.Ytjakjnmfndfehaa
set_option linter.unusedVariables false
set_option linter.unusedSimpArgs false
theorem rexdot_none {f g : Nat → Nat} {n : Nat} (h : dxN f g n = true) : 9218868437227405313 = rexdotV f g n := by unfold rexdotV; rw [h]; rfl
theorem wrap_mul {A B : Int} {a b m : Nat} (hA : A = a) (hB : B = b) (h : m = a * b) (hl : m < 18446744073709551616) : IntKind.u64.wrap (A * B) = (m : Int) := by
  rw [hA, hB, ← Int.natCast_mul, ← h]
  exact wrapN m hl
/-- One of four. -/
def Plus1 (X Y : Nat → Int) (m a : Nat) (dg : Bool) (b : Int) : Prop := m < W64 ∧ a < 4400 ∧ Y = plusD X m (a % 16) (a / 16) dg 5 ∧ (∀ i, i < 280 → -b ≤ X i ∧ X i ≤ b)
theorem plus1_val {X Y : Nat → Int} {m a : Nat} {dg : Bool} {b : Int} (h : Plus1 X Y m a dg b) : bv Y 280 = bv X 280 + sgn dg (m * 2 ^ a) ∧ ∀ i, i < 280 → -(b + 65535) ≤ Y i ∧ Y i ≤ b + 65535 := by
  obtain ⟨h1, h2, rfl, h3⟩ := h
  refine ⟨?_, fun i hi => plusD_bd h1 (Nat.mod_lt _ (by omega)) (h3 i hi)⟩
  have := bv_plus5 (X := X) (m := m) (s := a % 16) (k := a / 16) (n := 280) (neg := dg) (by omega) h1 (Nat.mod_lt _ (by omega))
  rw [this, show 16 * (a / 16) + a % 16 = a by omega]
theorem four_big (X : Nat → Int) (mx my px py : Nat) (dg : Bool) (S b : Int) (hx : mx < 9007199254740992) (hy : my < 9007199254740992) (hpx : px ≤ 2045) (hpy : py ≤ 2045) (hX : ∀ i, i < 280 → -b ≤ X i ∧ X i ≤ b) (hS : bv X 280 = S * ((2 ^ K52 : Nat) : Int)) :
    ∃ (m1 m2 m3 m4 a0 a1 a2 : Nat) (X1 X2 X3 X4 : Nat → Int),
      IntKind.u64.wrap ((mx : Int) % 4294967296 * ((my : Int) % 4294967296)) = (m1 : Int) ∧ IntKind.u64.wrap ((mx : Int) / 4294967296 * ((my : Int) % 4294967296)) = (m2 : Int) ∧
      IntKind.u64.wrap ((mx : Int) % 4294967296 * ((my : Int) / 4294967296)) = (m3 : Int) ∧ IntKind.u64.wrap ((mx : Int) / 4294967296 * ((my : Int) / 4294967296)) = (m4 : Int) ∧
      wrap64 ((px : Int) - 1074 + ((py : Int) - 1074)) = (a0 : Int) - 2200 ∧ wrap64 ((a0 : Int) - 2200 + 32) = (a1 : Int) - 2200 ∧ wrap64 ((a0 : Int) - 2200 + 64) = (a2 : Int) - 2200 ∧
      Plus1 X X1 m1 a0 dg b ∧ Plus1 X1 X2 m2 a1 dg (b + 65535) ∧ Plus1 X2 X3 m3 a1 dg (b + 131070) ∧ Plus1 X3 X4 m4 a2 dg (b + 196605) ∧
      (∀ i, i < 280 → -(b + 262140) ≤ X4 i ∧ X4 i ≤ b + 262140) ∧ bv X4 280 = (S + sgn dg (mx * 2 ^ px * (my * 2 ^ py))) * ((2 ^ K52 : Nat) : Int) := by
  have e1 : ((mx : Int) % 4294967296) = ((mx % 4294967296 : Nat) : Int) := by omega
  have e2 : ((my : Int) % 4294967296) = ((my % 4294967296 : Nat) : Int) := by omega
  have e3 : ((mx : Int) / 4294967296) = ((mx / 4294967296 : Nat) : Int) := by omega
  have e4 : ((my : Int) / 4294967296) = ((my / 4294967296 : Nat) : Int) := by omega
  have l1 : mx % 4294967296 ≤ 4294967295 := by omega
  have l2 : my % 4294967296 ≤ 4294967295 := by omega
  have l3 : mx / 4294967296 ≤ 2097151 := by omega
  have l4 : my / 4294967296 ≤ 2097151 := by omega
  have q1 := Nat.mul_le_mul l1 l2
  have q2 := Nat.mul_le_mul l3 l2
  have q3 := Nat.mul_le_mul l1 l4
  have q4 := Nat.mul_le_mul l3 l4
  have hW : W64 = 18446744073709551616 := rfl
  have four := @four_parts mx my (px + py + 52)
  have w1 : IntKind.u64.wrap ((mx : Int) % 4294967296 * ((my : Int) % 4294967296)) = ((mx % 4294967296 * (my % 4294967296) : Nat) : Int) := wrap_mul e1 e2 rfl (by omega)
  have w2 : IntKind.u64.wrap ((mx : Int) / 4294967296 * ((my : Int) % 4294967296)) = ((mx / 4294967296 * (my % 4294967296) : Nat) : Int) := wrap_mul e3 e2 rfl (by omega)
  have w3 : IntKind.u64.wrap ((mx : Int) % 4294967296 * ((my : Int) / 4294967296)) = ((mx % 4294967296 * (my / 4294967296) : Nat) : Int) := wrap_mul e1 e4 rfl (by omega)
  have w4 : IntKind.u64.wrap ((mx : Int) / 4294967296 * ((my : Int) / 4294967296)) = ((mx / 4294967296 * (my / 4294967296) : Nat) : Int) := wrap_mul e3 e4 rfl (by omega)
  generalize mx % 4294967296 * (my % 4294967296) = m1 at *
  generalize mx / 4294967296 * (my % 4294967296) = m2 at *
  generalize mx % 4294967296 * (my / 4294967296) = m3 at *
  generalize mx / 4294967296 * (my / 4294967296) = m4 at *
  obtain ⟨X1, hX1⟩ : ∃ Y, Y = plusD X m1 ((px + py + 52) % 16) ((px + py + 52) / 16) dg 5 := ⟨_, rfl⟩
  have p1 : Plus1 X X1 m1 (px + py + 52) dg (b) := ⟨by omega, by omega, hX1, hX⟩
  have v1 := plus1_val p1
  obtain ⟨X2, hX2⟩ : ∃ Y, Y = plusD X1 m2 ((px + py + 52 + 32) % 16) ((px + py + 52 + 32) / 16) dg 5 := ⟨_, rfl⟩
  have p2 : Plus1 X1 X2 m2 (px + py + 52 + 32) dg (b + 65535) := ⟨by omega, by omega, hX2, v1.2⟩
  have v2 := plus1_val p2
  obtain ⟨X3, hX3⟩ : ∃ Y, Y = plusD X2 m3 ((px + py + 52 + 32) % 16) ((px + py + 52 + 32) / 16) dg 5 := ⟨_, rfl⟩
  have p3 : Plus1 X2 X3 m3 (px + py + 52 + 32) dg (b + 131070) := ⟨by omega, by omega, hX3, fun i hi => by have := v2.2 i hi; omega⟩
  have v3 := plus1_val p3
  obtain ⟨X4, hX4⟩ : ∃ Y, Y = plusD X3 m4 ((px + py + 52 + 64) % 16) ((px + py + 52 + 64) / 16) dg 5 := ⟨_, rfl⟩
  have p4 : Plus1 X3 X4 m4 (px + py + 52 + 64) dg (b + 196605) := ⟨by omega, by omega, hX4, fun i hi => by have := v3.2 i hi; omega⟩
  have v4 := plus1_val p4
  refine ⟨m1, m2, m3, m4, px + py + 52, px + py + 52 + 32, px + py + 52 + 64, X1, X2, X3, X4, w1, w2, w3, w4, by unfold wrap64; omega, by unfold wrap64; omega, by unfold wrap64; omega, p1, p2, p3, p4, fun i hi => by have := v4.2 i hi; omega, ?_⟩
  rw [v4.1, v3.1, v2.1, v1.1, hS, Int.add_mul, sgn_mul]
  have hm : mx * 2 ^ px * (my * 2 ^ py) * 2 ^ K52 = m1 * 2 ^ (px + py + 52) + m2 * 2 ^ (px + py + 52 + 32) + m3 * 2 ^ (px + py + 52 + 32) + m4 * 2 ^ (px + py + 52 + 64) := by
    rw [← four, show K52 = 52 from rfl, Nat.pow_add 2 (px + py) 52, Nat.pow_add 2 px py]
    generalize (2 : Nat) ^ px = A
    generalize (2 : Nat) ^ py = B
    generalize (2 : Nat) ^ 52 = C
    simp only [Nat.mul_assoc, Nat.mul_comm, Nat.mul_left_comm]
  rw [hm, sgn_add, sgn_add, sgn_add]
  simp only [Int.add_assoc]
end Go.Pst
namespace Go.Proofs.Ytjakjnmfndfehaa
open Go.RowKit Go.Pst
set_option maxRecDepth 20000
set_option linter.unusedSimpArgs false
set_option linter.unusedVariables false
attribute [local go_sem] m64bits m64from

theorem plus1_any {X Y : Nat → Int} {m a : Nat} {dg : Bool} {b : Int} (h : Plus1 X Y m a dg b) (hb : 0 ≤ b ∧ b ≤ 1152921504606846976) (w : World) :
    Calls Try.prog 84 #[.agg (bcells X).toArray, .int .u64 m, .int .i64 ((a : Int) - 2200), .bool dg] w (BigPost Y w) := by
  obtain ⟨h1, h2, rfl, h3⟩ := h
  exact plus_any X m a dg b w h1 h2 hb h3
set_option maxHeartbeats 8000000 in
theorem rexactdot_any (n c d : Nat) (A B : Option Addr) (f g : Nat → Nat) (w : World) (hA : FlAt w w.heap.size A n f) (hB : FlAt w w.heap.size B n g) (hn : n ≤ 65536) (hf : ∀ j, j < n → f j < 2 ^ 64) (hg : ∀ j, j < n → g j < 2 ^ 64) :
    Calls Try.prog 53 #[.slice A n c, .slice B n d] w fun en w' => en = .returned (.float .f64 (rexdotV f g n)) ∧ Below w.heap.size w w' := by
  have HA0 := Lib.hid hA; have HB0 := Lib.hid hB; have HF := Lib.hid hf; have HG := Lib.hid hg
  have HNONE := Lib.hid fun w => pNone_any w
  obtain ⟨a0, ha0⟩ : ∃ a, a = decide (0 < n) := ⟨_, rfl⟩
  have ha1 : decide ((n : Int) > 0) = a0 := by rw [ha0, decide_eq_decide]; omega
  have ha2 : decide (0 < (n : Int)) = a0 := ha1
  have HA00 := Lib.hid ha0
  clear hA hB hf hg ha0
  go_enter Try.func53, Try.ntmps53
  go_wp2_with (with_reducible refine wpList_store_row rfl 88 _ _ rfl w.heap.size (bcells fun _ => 0).toArray rfl rfl 88 (bcells fun _ => 0).toArray (by rw [heap_alloc_new, bcells_zero]) (info280' _) (by simp [bcells]) (all_oneCell_toArray (bcells_one _)) ?_)
  go_loopw [5, 6, 7, 9] (fun up dn al t wr => ∃ k : Nat, t = .int .i64 k ∧ k ≤ n ∧ dxN f g k = false ∧ up = .bool (dxP f g k) ∧ dn = .bool (dxL f g k) ∧ al = .bool (a0 && !dxM f g k) ∧ Below w.heap.size w wr ∧ w.heap.size + 1 ≤ wr.heap.size ∧
      ∃ X, wr.heap[w.heap.size]? = some (.cells (bcells X).toArray 88 (0, 0)) ∧ (∀ i, i < 280 → -(262140 * (k : Int)) ≤ X i ∧ X i ≤ 262140 * (k : Int)) ∧ bv X 280 = dxU f g k * ((2 ^ K52 : Nat) : Int)) (fun _ _ _ t _ => n - (intOf t).toNat)
  case atStart =>
    exact ⟨0, rfl, by omega, rfl, rfl, rfl, by rw [HA00.out, show dxM f g 0 = false from rfl, Bool.not_false, Bool.and_true], below_setRow ((Below.refl _ _).alloc (Nat.le_refl _) _) (Nat.le_refl _), by rw [setRow_size]; simp,
      _, setRow_heap _ _ Try.zeroCells88 _ _ _ (heap_alloc_new _ _), fun i _ => by simp, by rw [show dxU f g 0 = 0 from rfl, Int.zero_mul]; exact bv_zero 280⟩
  case round =>
    obtain ⟨k, rfl, hk, hnk, rfl, rfl, rfl, hw, hsz, X, ha, hx, hbv⟩ := hrel
    have HA := Lib.hid ha; have BW := Lib.hid hw; have HX := Lib.hid hx; have HBV := Lib.hid hbv; have HNK := Lib.hid hnk
    clear ha hw hx hbv hnk
    by_cases hkn : k < n
    · have h3 : (k : Int) < (n : Int) := by omega
      have h0 : 0 ≤ (k : Int) := by omega
      obtain ⟨a, o, rfl, haw, hc⟩ := (HA0.out.below BW.out (Nat.le_refl _)) (by omega)
      obtain ⟨b, o2, rfl, hbw, hc2⟩ := (HB0.out.below BW.out (Nat.le_refl _)) (by omega)
      have q := hc k hkn
      have q2 := hc2 k hkn
      have hbx := HF.out k hkn
      have hby := HG.out k hkn
      have eP : dxP f g (k + 1) = (dxP f g k || (!dN (f k) (g k) && dI (f k) (g k) && !dG (f k) (g k))) := rfl
      have eL : dxL f g (k + 1) = (dxL f g k || (!dN (f k) (g k) && dI (f k) (g k) && dG (f k) (g k))) := rfl
      have eN : dxN f g (k + 1) = (dxN f g k || dN (f k) (g k)) := rfl
      have eM : dxM f g (k + 1) = (dxM f g k || (!dN (f k) (g k) && (dI (f k) (g k) || decide (dM (f k) (g k) ≠ 0) || !dG (f k) (g k)))) := rfl
      have eU : dxU f g (k + 1) = dxU f g k + (if !dN (f k) (g k) && !dI (f k) (g k) then sgn (dG (f k) (g k)) (dM (f k) (g k)) else 0) := rfl
      have hmono := Lib.hid fun h => dxN_mono (f := f) (g := g) (k := k + 1) h n (by omega)
      have hal : a < wr.heap.size := by omega
      have hbl : b < wr.heap.size := by omega
      clear hc hc2
      obtain ⟨x, hx⟩ : ∃ x, x = f k := ⟨_, rfl⟩
      obtain ⟨y, hy⟩ : ∃ y, y = g k := ⟨_, rfl⟩
      rw [← hx] at q hbx eP eL eN eM eU
      rw [← hy] at q2 hby eP eL eN eM eU
      clear hx hy
      rw [HNK.out, Bool.false_or] at eN
      have hno1 := fun w => pnone_any x w
      have hno2 := fun w => pnone_any y w
      have hin1 := fun w => pinf_any x w hbx
      have hin2 := fun w => pinf_any y w hby
      have hzx := feq_zer hbx
      have hzy := feq_zer hby
      cases hnx : nan64 x
      · rw [hnx] at hno1
        cases hny : nan64 y
        · rw [hny] at hno2
          cases hi1 : infB x
          · rw [hi1] at hin1
            cases hi2 : infB y
            · rw [hi2] at hin2
              have hfx : finB x := ⟨hbx, hnx, hi1⟩
              have hfy : finB y := ⟨hby, hny, hi2⟩
              have hd1 : dN x y = false := by unfold dN; rw [hnx, hny, hi1, hi2]; rfl
              have hd2 : dI x y = false := by unfold dI; rw [hi1, hi2]; rfl
              rw [hd1, hd2] at eP eL eM
              rw [hd1] at eN
              rw [hd1, hd2, show (!false && !false) = true from rfl, if_pos rfl] at eU
              have hpa1 := fun w => pparts_any x w hbx
              have hpa2 := fun w => pparts_any y w hby
              have hng1 := fun w => pneg_any x w hbx
              have hng2 := fun w => pneg_any y w hby
              have hzz : decide (dM x y ≠ 0) = !(zerB x || zerB y) := by
                unfold zerB dM
                rw [hnx, hny, hi1, hi2]
                by_cases h1 : magN x = 0 <;> by_cases h2 : magN y = 0 <;> simp [h1, h2, Nat.mul_eq_zero]
              have hdg : (!(negB x == negB y)) = dG x y := rfl
              rw [hzz] at eM
              obtain ⟨al, hal1⟩ : ∃ b, b = (a0 && !dxM f g k) := ⟨_, rfl⟩
              have eM2 : (a0 && !dxM f g (k + 1)) = (al && (zerB x || zerB y) && dG x y) := by
                rw [eM, hal1]
                cases a0 <;> cases dxM f g k <;> cases dG x y <;> cases zerB x <;> cases zerB y <;> rfl
              rw [← hal1]
              rw [show dM x y = mantB x * 2 ^ placeB x * (mantB y * 2 ^ placeB y) from rfl] at eU
              obtain ⟨m1, m2, m3, m4, a5, a6, a7, X1, X2, X3, X4, u1, u2, u3, u4', u5, u6, u7, P1, P2, P3, P4, hx4, hv4⟩ := four_big X (mantB x) (mantB y) (placeB x) (placeB y) (dG x y) (dxU f g k) (262140 * (k : Int)) (mant_lt x) (mant_lt y) (place_fin hfx) (place_fin hfy) HX.out HBV.out
              rw [← eU] at hv4
              have HV4 := Lib.hid hv4
              have HX4 : Hid (∀ i, i < 280 → -(262140 * ((k + 1 : Nat) : Int)) ≤ X4 i ∧ X4 i ≤ 262140 * ((k + 1 : Nat) : Int)) := Lib.hid fun i hi => by have := hx4 i hi; omega
              have PL1 := Lib.hid (plus1_any P1 (by omega))
              have PL2 := Lib.hid (plus1_any P2 (by omega))
              have PL3 := Lib.hid (plus1_any P3 (by omega))
              have PL4 := Lib.hid (plus1_any P4 (by omega))
              clear hv4 hx4 P1 P2 P3 P4 eU
              generalize mantB x = mx at *
              generalize mantB y = my at *
              generalize placeB x = px at *
              generalize placeB y = py at *
              generalize dG x y = dg at *
              generalize negB x = sx at *
              generalize negB y = sy at *
              generalize zerB x = zx at *
              generalize zerB y = zy at *
              have HNX := Lib.hid hno1; have HNY := Lib.hid hno2; have HIX := Lib.hid hin1; have HIY := Lib.hid hin2
              have HPX := Lib.hid hpa1; have HPY := Lib.hid hpa2; have HGX := Lib.hid hng1; have HGY := Lib.hid hng2
              have EP := Lib.hid eP; have EL := Lib.hid eL; have EN := Lib.hid eN; have EM := Lib.hid eM2
              clear hno1 hno2 hin1 hin2 hpa1 hpa2 hng1 hng2 eP eL eN eM eM2 hmono hzz hal1 hd1 hd2
              cases al
              ·
                go_wp2_with fail
                refine Reg.wp_region_rd (by kernel_rfl) (by kernel_rfl) (fun _ => ?_)
                repeat (refine Reg.rd_op rfl ?_; apply Exists.intro; apply And.intro; (intro w' hb; have hc := Reg.rd_cells hb; clear hb; go_simp; (try go_bits); first | done | (with_reducible exact rfl)); (intro _ a' ha'; simp only [Act.put, List.setIfInBounds_toArray, List.set_cons_zero, List.set_cons_succ] at ha'; subst ha'))
                refine Reg.rd_end (fun wz hbr => ?_)
                have BW2 := Lib.hid (BW.out.trans (hbr.mono BW.out.size))
                have HA2 := Lib.hid ((hbr.block w.heap.size (by omega)).trans HA.out)
                have hsz2 : w.heap.size + 1 ≤ wz.heap.size := Nat.le_trans hsz hbr.size
                clear hbr
                go_wp2_with fail
                refine (HNX.out _).mono ?_
                rintro en w' ⟨rfl, rfl⟩
                go_wp2_with fail
                refine (HNY.out _).mono ?_
                rintro en w' ⟨rfl, rfl⟩
                go_wp2_with fail
                refine (HIX.out _).mono ?_
                rintro en w' ⟨rfl, rfl⟩
                go_wp2_with fail
                refine (HIY.out _).mono ?_
                rintro en w' ⟨rfl, rfl⟩
                go_wp2_with fail
                refine (HGX.out _).mono ?_
                rintro en w' ⟨rfl, rfl⟩
                go_wp2_with fail
                refine (HGY.out _).mono ?_
                rintro en w' ⟨rfl, rfl⟩
                go_wp2_with fail
                refine (HIX.out _).mono ?_
                rintro en w' ⟨rfl, rfl⟩
                go_wp2_with fail
                refine (HIY.out _).mono ?_
                rintro en w' ⟨rfl, rfl⟩
                go_wp2_with fail
                refine (HPX.out _).mono ?_
                rintro en w' ⟨rfl, rfl⟩
                go_wp2_with fail
                refine (HPY.out _).mono ?_
                rintro en w' ⟨rfl, rfl⟩
                go_wp2_with (with_reducible refine wpList_load_row rfl 88 _ rfl w.heap.size rfl 88 (bcells X).toArray (0, 0) _ HA2.out Try.underlying88 rfl (info280' _) ?_)
                refine (PL1.out _).mono ?_
                rintro en wn1 ⟨rfl, hbn⟩
                have HB1 := Lib.hid ((hbn.block w.heap.size (by omega)).trans HA2.out)
                have BN1 := Lib.hid (BW2.out.trans (hbn.mono (by omega)))
                have hz1 : w.heap.size + 1 ≤ wn1.heap.size := Nat.le_trans hsz2 hbn.size
                clear hbn
                have HA3 := Lib.hid (setRow_heap wn1 w.heap.size _ (bcells X1).toArray _ _ HB1.out)
                have BW3 := Lib.hid (below_setRow (cs := (bcells X1).toArray) BN1.out (Nat.le_refl _))
                have hsz3 : w.heap.size + 1 ≤ (wn1.setRow w.heap.size (bcells X1).toArray).heap.size := by rw [setRow_size]; exact hz1
                go_wp2_with (with_reducible first
                             | (refine wpList_store_row rfl 88 _ _ rfl w.heap.size (bcells X1).toArray rfl rfl 88 (bcells X).toArray HB1.out (info280' _) (by simp [bcells]) (all_oneCell_toArray (bcells_one _)) ?_)
                             | (refine wpList_load_row rfl 88 _ rfl w.heap.size rfl 88 (bcells X1).toArray (0, 0) _ HA3.out Try.underlying88 rfl (info280' _) ?_))
                refine (PL2.out _).mono ?_
                rintro en wn2 ⟨rfl, hbn⟩
                have HB2 := Lib.hid ((hbn.block w.heap.size (by omega)).trans HA3.out)
                have BN2 := Lib.hid (BW3.out.trans (hbn.mono (by omega)))
                have hz2 : w.heap.size + 1 ≤ wn2.heap.size := Nat.le_trans hsz3 hbn.size
                clear hbn
                have HA4 := Lib.hid (setRow_heap wn2 w.heap.size _ (bcells X2).toArray _ _ HB2.out)
                have BW4 := Lib.hid (below_setRow (cs := (bcells X2).toArray) BN2.out (Nat.le_refl _))
                have hsz4 : w.heap.size + 1 ≤ (wn2.setRow w.heap.size (bcells X2).toArray).heap.size := by rw [setRow_size]; exact hz2
                go_wp2_with (with_reducible first
                             | (refine wpList_store_row rfl 88 _ _ rfl w.heap.size (bcells X2).toArray rfl rfl 88 (bcells X1).toArray HB2.out (info280' _) (by simp [bcells]) (all_oneCell_toArray (bcells_one _)) ?_)
                             | (refine wpList_load_row rfl 88 _ rfl w.heap.size rfl 88 (bcells X2).toArray (0, 0) _ HA4.out Try.underlying88 rfl (info280' _) ?_))
                refine (PL3.out _).mono ?_
                rintro en wn3 ⟨rfl, hbn⟩
                have HB3 := Lib.hid ((hbn.block w.heap.size (by omega)).trans HA4.out)
                have BN3 := Lib.hid (BW4.out.trans (hbn.mono (by omega)))
                have hz3 : w.heap.size + 1 ≤ wn3.heap.size := Nat.le_trans hsz4 hbn.size
                clear hbn
                have HA5 := Lib.hid (setRow_heap wn3 w.heap.size _ (bcells X3).toArray _ _ HB3.out)
                have BW5 := Lib.hid (below_setRow (cs := (bcells X3).toArray) BN3.out (Nat.le_refl _))
                have hsz5 : w.heap.size + 1 ≤ (wn3.setRow w.heap.size (bcells X3).toArray).heap.size := by rw [setRow_size]; exact hz3
                go_wp2_with (with_reducible first
                             | (refine wpList_store_row rfl 88 _ _ rfl w.heap.size (bcells X3).toArray rfl rfl 88 (bcells X2).toArray HB3.out (info280' _) (by simp [bcells]) (all_oneCell_toArray (bcells_one _)) ?_)
                             | (refine wpList_load_row rfl 88 _ rfl w.heap.size rfl 88 (bcells X3).toArray (0, 0) _ HA5.out Try.underlying88 rfl (info280' _) ?_))
                refine (PL4.out _).mono ?_
                rintro en wn4 ⟨rfl, hbn⟩
                have HB4 := Lib.hid ((hbn.block w.heap.size (by omega)).trans HA5.out)
                have BN4 := Lib.hid (BW5.out.trans (hbn.mono (by omega)))
                have hz4 : w.heap.size + 1 ≤ wn4.heap.size := Nat.le_trans hsz5 hbn.size
                clear hbn
                have HA6 := Lib.hid (setRow_heap wn4 w.heap.size _ (bcells X4).toArray _ _ HB4.out)
                have BW6 := Lib.hid (below_setRow (cs := (bcells X4).toArray) BN4.out (Nat.le_refl _))
                have hsz6 : w.heap.size + 1 ≤ (wn4.setRow w.heap.size (bcells X4).toArray).heap.size := by rw [setRow_size]; exact hz4
                go_wp2_with (with_reducible first
                             | (refine wpList_store_row rfl 88 _ _ rfl w.heap.size (bcells X4).toArray rfl rfl 88 (bcells X3).toArray HB4.out (info280' _) (by simp [bcells]) (all_oneCell_toArray (bcells_one _)) ?_)
                             | (refine wpList_load_row rfl 88 _ rfl w.heap.size rfl 88 (bcells X4).toArray (0, 0) _ HA6.out Try.underlying88 rfl (info280' _) ?_))
                go_roundw
                case rel => exact ⟨k + 1, by go_num, by omega, EN.out, by rw [EP.out] <;> first | rfl | simp, by rw [EL.out] <;> first | rfl | simp, by rw [EM.out] <;> first | rfl | simp, BW6.out, hsz6, X4, HA6.out, HX4.out, HV4.out⟩
                case measure => (simp [intOf] <;> omega)
              · cases zx
                · cases zy
                  ·
                    go_wp2_with fail
                    refine Reg.wp_region_rd (by kernel_rfl) (by kernel_rfl) (fun _ => ?_)
                    repeat (refine Reg.rd_op rfl ?_; apply Exists.intro; apply And.intro; (intro w' hb; have hc := Reg.rd_cells hb; clear hb; go_simp; (try go_bits); first | done | (with_reducible exact rfl)); (intro _ a' ha'; simp only [Act.put, List.setIfInBounds_toArray, List.set_cons_zero, List.set_cons_succ] at ha'; subst ha'))
                    refine Reg.rd_end (fun wz hbr => ?_)
                    have BW2 := Lib.hid (BW.out.trans (hbr.mono BW.out.size))
                    have HA2 := Lib.hid ((hbr.block w.heap.size (by omega)).trans HA.out)
                    have hsz2 : w.heap.size + 1 ≤ wz.heap.size := Nat.le_trans hsz hbr.size
                    clear hbr
                    go_wp2_with fail
                    refine (HNX.out _).mono ?_
                    rintro en w' ⟨rfl, rfl⟩
                    go_wp2_with fail
                    refine (HNY.out _).mono ?_
                    rintro en w' ⟨rfl, rfl⟩
                    go_wp2_with fail
                    refine (HIX.out _).mono ?_
                    rintro en w' ⟨rfl, rfl⟩
                    go_wp2_with fail
                    refine (HIY.out _).mono ?_
                    rintro en w' ⟨rfl, rfl⟩
                    go_wp2_with fail
                    refine (HGX.out _).mono ?_
                    rintro en w' ⟨rfl, rfl⟩
                    go_wp2_with fail
                    refine (HGY.out _).mono ?_
                    rintro en w' ⟨rfl, rfl⟩
                    go_wp2_with fail
                    refine (HIX.out _).mono ?_
                    rintro en w' ⟨rfl, rfl⟩
                    go_wp2_with fail
                    refine (HIY.out _).mono ?_
                    rintro en w' ⟨rfl, rfl⟩
                    go_wp2_with fail
                    refine (HPX.out _).mono ?_
                    rintro en w' ⟨rfl, rfl⟩
                    go_wp2_with fail
                    refine (HPY.out _).mono ?_
                    rintro en w' ⟨rfl, rfl⟩
                    go_wp2_with (with_reducible refine wpList_load_row rfl 88 _ rfl w.heap.size rfl 88 (bcells X).toArray (0, 0) _ HA2.out Try.underlying88 rfl (info280' _) ?_)
                    refine (PL1.out _).mono ?_
                    rintro en wn1 ⟨rfl, hbn⟩
                    have HB1 := Lib.hid ((hbn.block w.heap.size (by omega)).trans HA2.out)
                    have BN1 := Lib.hid (BW2.out.trans (hbn.mono (by omega)))
                    have hz1 : w.heap.size + 1 ≤ wn1.heap.size := Nat.le_trans hsz2 hbn.size
                    clear hbn
                    have HA3 := Lib.hid (setRow_heap wn1 w.heap.size _ (bcells X1).toArray _ _ HB1.out)
                    have BW3 := Lib.hid (below_setRow (cs := (bcells X1).toArray) BN1.out (Nat.le_refl _))
                    have hsz3 : w.heap.size + 1 ≤ (wn1.setRow w.heap.size (bcells X1).toArray).heap.size := by rw [setRow_size]; exact hz1
                    go_wp2_with (with_reducible first
                                 | (refine wpList_store_row rfl 88 _ _ rfl w.heap.size (bcells X1).toArray rfl rfl 88 (bcells X).toArray HB1.out (info280' _) (by simp [bcells]) (all_oneCell_toArray (bcells_one _)) ?_)
                                 | (refine wpList_load_row rfl 88 _ rfl w.heap.size rfl 88 (bcells X1).toArray (0, 0) _ HA3.out Try.underlying88 rfl (info280' _) ?_))
                    refine (PL2.out _).mono ?_
                    rintro en wn2 ⟨rfl, hbn⟩
                    have HB2 := Lib.hid ((hbn.block w.heap.size (by omega)).trans HA3.out)
                    have BN2 := Lib.hid (BW3.out.trans (hbn.mono (by omega)))
                    have hz2 : w.heap.size + 1 ≤ wn2.heap.size := Nat.le_trans hsz3 hbn.size
                    clear hbn
                    have HA4 := Lib.hid (setRow_heap wn2 w.heap.size _ (bcells X2).toArray _ _ HB2.out)
                    have BW4 := Lib.hid (below_setRow (cs := (bcells X2).toArray) BN2.out (Nat.le_refl _))
                    have hsz4 : w.heap.size + 1 ≤ (wn2.setRow w.heap.size (bcells X2).toArray).heap.size := by rw [setRow_size]; exact hz2
                    go_wp2_with (with_reducible first
                                 | (refine wpList_store_row rfl 88 _ _ rfl w.heap.size (bcells X2).toArray rfl rfl 88 (bcells X1).toArray HB2.out (info280' _) (by simp [bcells]) (all_oneCell_toArray (bcells_one _)) ?_)
                                 | (refine wpList_load_row rfl 88 _ rfl w.heap.size rfl 88 (bcells X2).toArray (0, 0) _ HA4.out Try.underlying88 rfl (info280' _) ?_))
                    refine (PL3.out _).mono ?_
                    rintro en wn3 ⟨rfl, hbn⟩
                    have HB3 := Lib.hid ((hbn.block w.heap.size (by omega)).trans HA4.out)
                    have BN3 := Lib.hid (BW4.out.trans (hbn.mono (by omega)))
                    have hz3 : w.heap.size + 1 ≤ wn3.heap.size := Nat.le_trans hsz4 hbn.size
                    clear hbn
                    have HA5 := Lib.hid (setRow_heap wn3 w.heap.size _ (bcells X3).toArray _ _ HB3.out)
                    have BW5 := Lib.hid (below_setRow (cs := (bcells X3).toArray) BN3.out (Nat.le_refl _))
                    have hsz5 : w.heap.size + 1 ≤ (wn3.setRow w.heap.size (bcells X3).toArray).heap.size := by rw [setRow_size]; exact hz3
                    go_wp2_with (with_reducible first
                                 | (refine wpList_store_row rfl 88 _ _ rfl w.heap.size (bcells X3).toArray rfl rfl 88 (bcells X2).toArray HB3.out (info280' _) (by simp [bcells]) (all_oneCell_toArray (bcells_one _)) ?_)
                                 | (refine wpList_load_row rfl 88 _ rfl w.heap.size rfl 88 (bcells X3).toArray (0, 0) _ HA5.out Try.underlying88 rfl (info280' _) ?_))
                    refine (PL4.out _).mono ?_
                    rintro en wn4 ⟨rfl, hbn⟩
                    have HB4 := Lib.hid ((hbn.block w.heap.size (by omega)).trans HA5.out)
                    have BN4 := Lib.hid (BW5.out.trans (hbn.mono (by omega)))
                    have hz4 : w.heap.size + 1 ≤ wn4.heap.size := Nat.le_trans hsz5 hbn.size
                    clear hbn
                    have HA6 := Lib.hid (setRow_heap wn4 w.heap.size _ (bcells X4).toArray _ _ HB4.out)
                    have BW6 := Lib.hid (below_setRow (cs := (bcells X4).toArray) BN4.out (Nat.le_refl _))
                    have hsz6 : w.heap.size + 1 ≤ (wn4.setRow w.heap.size (bcells X4).toArray).heap.size := by rw [setRow_size]; exact hz4
                    go_wp2_with (with_reducible first
                                 | (refine wpList_store_row rfl 88 _ _ rfl w.heap.size (bcells X4).toArray rfl rfl 88 (bcells X3).toArray HB4.out (info280' _) (by simp [bcells]) (all_oneCell_toArray (bcells_one _)) ?_)
                                 | (refine wpList_load_row rfl 88 _ rfl w.heap.size rfl 88 (bcells X4).toArray (0, 0) _ HA6.out Try.underlying88 rfl (info280' _) ?_))
                    go_roundw
                    case rel => exact ⟨k + 1, by go_num, by omega, EN.out, by rw [EP.out] <;> first | rfl | simp, by rw [EL.out] <;> first | rfl | simp, by rw [EM.out] <;> first | rfl | simp, BW6.out, hsz6, X4, HA6.out, HX4.out, HV4.out⟩
                    case measure => (simp [intOf] <;> omega)
                  ·
                    go_wp2_with fail
                    refine Reg.wp_region_rd (by kernel_rfl) (by kernel_rfl) (fun _ => ?_)
                    repeat (refine Reg.rd_op rfl ?_; apply Exists.intro; apply And.intro; (intro w' hb; have hc := Reg.rd_cells hb; clear hb; go_simp; (try go_bits); first | done | (with_reducible exact rfl)); (intro _ a' ha'; simp only [Act.put, List.setIfInBounds_toArray, List.set_cons_zero, List.set_cons_succ] at ha'; subst ha'))
                    refine Reg.rd_end (fun wz hbr => ?_)
                    have BW2 := Lib.hid (BW.out.trans (hbr.mono BW.out.size))
                    have HA2 := Lib.hid ((hbr.block w.heap.size (by omega)).trans HA.out)
                    have hsz2 : w.heap.size + 1 ≤ wz.heap.size := Nat.le_trans hsz hbr.size
                    clear hbr
                    go_wp2_with fail
                    refine (HNX.out _).mono ?_
                    rintro en w' ⟨rfl, rfl⟩
                    go_wp2_with fail
                    refine (HNY.out _).mono ?_
                    rintro en w' ⟨rfl, rfl⟩
                    go_wp2_with fail
                    refine (HIX.out _).mono ?_
                    rintro en w' ⟨rfl, rfl⟩
                    go_wp2_with fail
                    refine (HIY.out _).mono ?_
                    rintro en w' ⟨rfl, rfl⟩
                    go_wp2_with fail
                    refine (HGX.out _).mono ?_
                    rintro en w' ⟨rfl, rfl⟩
                    go_wp2_with fail
                    refine (HGY.out _).mono ?_
                    rintro en w' ⟨rfl, rfl⟩
                    go_wp2_with fail
                    refine (HIX.out _).mono ?_
                    rintro en w' ⟨rfl, rfl⟩
                    go_wp2_with fail
                    refine (HIY.out _).mono ?_
                    rintro en w' ⟨rfl, rfl⟩
                    go_wp2_with fail
                    refine (HPX.out _).mono ?_
                    rintro en w' ⟨rfl, rfl⟩
                    go_wp2_with fail
                    refine (HPY.out _).mono ?_
                    rintro en w' ⟨rfl, rfl⟩
                    go_wp2_with (with_reducible refine wpList_load_row rfl 88 _ rfl w.heap.size rfl 88 (bcells X).toArray (0, 0) _ HA2.out Try.underlying88 rfl (info280' _) ?_)
                    refine (PL1.out _).mono ?_
                    rintro en wn1 ⟨rfl, hbn⟩
                    have HB1 := Lib.hid ((hbn.block w.heap.size (by omega)).trans HA2.out)
                    have BN1 := Lib.hid (BW2.out.trans (hbn.mono (by omega)))
                    have hz1 : w.heap.size + 1 ≤ wn1.heap.size := Nat.le_trans hsz2 hbn.size
                    clear hbn
                    have HA3 := Lib.hid (setRow_heap wn1 w.heap.size _ (bcells X1).toArray _ _ HB1.out)
                    have BW3 := Lib.hid (below_setRow (cs := (bcells X1).toArray) BN1.out (Nat.le_refl _))
                    have hsz3 : w.heap.size + 1 ≤ (wn1.setRow w.heap.size (bcells X1).toArray).heap.size := by rw [setRow_size]; exact hz1
                    go_wp2_with (with_reducible first
                                 | (refine wpList_store_row rfl 88 _ _ rfl w.heap.size (bcells X1).toArray rfl rfl 88 (bcells X).toArray HB1.out (info280' _) (by simp [bcells]) (all_oneCell_toArray (bcells_one _)) ?_)
                                 | (refine wpList_load_row rfl 88 _ rfl w.heap.size rfl 88 (bcells X1).toArray (0, 0) _ HA3.out Try.underlying88 rfl (info280' _) ?_))
                    refine (PL2.out _).mono ?_
                    rintro en wn2 ⟨rfl, hbn⟩
                    have HB2 := Lib.hid ((hbn.block w.heap.size (by omega)).trans HA3.out)
                    have BN2 := Lib.hid (BW3.out.trans (hbn.mono (by omega)))
                    have hz2 : w.heap.size + 1 ≤ wn2.heap.size := Nat.le_trans hsz3 hbn.size
                    clear hbn
                    have HA4 := Lib.hid (setRow_heap wn2 w.heap.size _ (bcells X2).toArray _ _ HB2.out)
                    have BW4 := Lib.hid (below_setRow (cs := (bcells X2).toArray) BN2.out (Nat.le_refl _))
                    have hsz4 : w.heap.size + 1 ≤ (wn2.setRow w.heap.size (bcells X2).toArray).heap.size := by rw [setRow_size]; exact hz2
                    go_wp2_with (with_reducible first
                                 | (refine wpList_store_row rfl 88 _ _ rfl w.heap.size (bcells X2).toArray rfl rfl 88 (bcells X1).toArray HB2.out (info280' _) (by simp [bcells]) (all_oneCell_toArray (bcells_one _)) ?_)
                                 | (refine wpList_load_row rfl 88 _ rfl w.heap.size rfl 88 (bcells X2).toArray (0, 0) _ HA4.out Try.underlying88 rfl (info280' _) ?_))
                    refine (PL3.out _).mono ?_
                    rintro en wn3 ⟨rfl, hbn⟩
                    have HB3 := Lib.hid ((hbn.block w.heap.size (by omega)).trans HA4.out)
                    have BN3 := Lib.hid (BW4.out.trans (hbn.mono (by omega)))
                    have hz3 : w.heap.size + 1 ≤ wn3.heap.size := Nat.le_trans hsz4 hbn.size
                    clear hbn
                    have HA5 := Lib.hid (setRow_heap wn3 w.heap.size _ (bcells X3).toArray _ _ HB3.out)
                    have BW5 := Lib.hid (below_setRow (cs := (bcells X3).toArray) BN3.out (Nat.le_refl _))
                    have hsz5 : w.heap.size + 1 ≤ (wn3.setRow w.heap.size (bcells X3).toArray).heap.size := by rw [setRow_size]; exact hz3
                    go_wp2_with (with_reducible first
                                 | (refine wpList_store_row rfl 88 _ _ rfl w.heap.size (bcells X3).toArray rfl rfl 88 (bcells X2).toArray HB3.out (info280' _) (by simp [bcells]) (all_oneCell_toArray (bcells_one _)) ?_)
                                 | (refine wpList_load_row rfl 88 _ rfl w.heap.size rfl 88 (bcells X3).toArray (0, 0) _ HA5.out Try.underlying88 rfl (info280' _) ?_))
                    refine (PL4.out _).mono ?_
                    rintro en wn4 ⟨rfl, hbn⟩
                    have HB4 := Lib.hid ((hbn.block w.heap.size (by omega)).trans HA5.out)
                    have BN4 := Lib.hid (BW5.out.trans (hbn.mono (by omega)))
                    have hz4 : w.heap.size + 1 ≤ wn4.heap.size := Nat.le_trans hsz5 hbn.size
                    clear hbn
                    have HA6 := Lib.hid (setRow_heap wn4 w.heap.size _ (bcells X4).toArray _ _ HB4.out)
                    have BW6 := Lib.hid (below_setRow (cs := (bcells X4).toArray) BN4.out (Nat.le_refl _))
                    have hsz6 : w.heap.size + 1 ≤ (wn4.setRow w.heap.size (bcells X4).toArray).heap.size := by rw [setRow_size]; exact hz4
                    go_wp2_with (with_reducible first
                                 | (refine wpList_store_row rfl 88 _ _ rfl w.heap.size (bcells X4).toArray rfl rfl 88 (bcells X3).toArray HB4.out (info280' _) (by simp [bcells]) (all_oneCell_toArray (bcells_one _)) ?_)
                                 | (refine wpList_load_row rfl 88 _ rfl w.heap.size rfl 88 (bcells X4).toArray (0, 0) _ HA6.out Try.underlying88 rfl (info280' _) ?_))
                    go_roundw
                    case rel => exact ⟨k + 1, by go_num, by omega, EN.out, by rw [EP.out] <;> first | rfl | simp, by rw [EL.out] <;> first | rfl | simp, by rw [EM.out] <;> first | rfl | simp, BW6.out, hsz6, X4, HA6.out, HX4.out, HV4.out⟩
                    case measure => (simp [intOf] <;> omega)
                ·
                  go_wp2_with fail
                  refine Reg.wp_region_rd (by kernel_rfl) (by kernel_rfl) (fun _ => ?_)
                  repeat (refine Reg.rd_op rfl ?_; apply Exists.intro; apply And.intro; (intro w' hb; have hc := Reg.rd_cells hb; clear hb; go_simp; (try go_bits); first | done | (with_reducible exact rfl)); (intro _ a' ha'; simp only [Act.put, List.setIfInBounds_toArray, List.set_cons_zero, List.set_cons_succ] at ha'; subst ha'))
                  refine Reg.rd_end (fun wz hbr => ?_)
                  have BW2 := Lib.hid (BW.out.trans (hbr.mono BW.out.size))
                  have HA2 := Lib.hid ((hbr.block w.heap.size (by omega)).trans HA.out)
                  have hsz2 : w.heap.size + 1 ≤ wz.heap.size := Nat.le_trans hsz hbr.size
                  clear hbr
                  go_wp2_with fail
                  refine (HNX.out _).mono ?_
                  rintro en w' ⟨rfl, rfl⟩
                  go_wp2_with fail
                  refine (HNY.out _).mono ?_
                  rintro en w' ⟨rfl, rfl⟩
                  go_wp2_with fail
                  refine (HIX.out _).mono ?_
                  rintro en w' ⟨rfl, rfl⟩
                  go_wp2_with fail
                  refine (HIY.out _).mono ?_
                  rintro en w' ⟨rfl, rfl⟩
                  go_wp2_with fail
                  refine (HGX.out _).mono ?_
                  rintro en w' ⟨rfl, rfl⟩
                  go_wp2_with fail
                  refine (HGY.out _).mono ?_
                  rintro en w' ⟨rfl, rfl⟩
                  go_wp2_with fail
                  refine (HIX.out _).mono ?_
                  rintro en w' ⟨rfl, rfl⟩
                  go_wp2_with fail
                  refine (HIY.out _).mono ?_
                  rintro en w' ⟨rfl, rfl⟩
                  go_wp2_with fail
                  refine (HPX.out _).mono ?_
                  rintro en w' ⟨rfl, rfl⟩
                  go_wp2_with fail
                  refine (HPY.out _).mono ?_
                  rintro en w' ⟨rfl, rfl⟩
                  go_wp2_with (with_reducible refine wpList_load_row rfl 88 _ rfl w.heap.size rfl 88 (bcells X).toArray (0, 0) _ HA2.out Try.underlying88 rfl (info280' _) ?_)
                  refine (PL1.out _).mono ?_
                  rintro en wn1 ⟨rfl, hbn⟩
                  have HB1 := Lib.hid ((hbn.block w.heap.size (by omega)).trans HA2.out)
                  have BN1 := Lib.hid (BW2.out.trans (hbn.mono (by omega)))
                  have hz1 : w.heap.size + 1 ≤ wn1.heap.size := Nat.le_trans hsz2 hbn.size
                  clear hbn
                  have HA3 := Lib.hid (setRow_heap wn1 w.heap.size _ (bcells X1).toArray _ _ HB1.out)
                  have BW3 := Lib.hid (below_setRow (cs := (bcells X1).toArray) BN1.out (Nat.le_refl _))
                  have hsz3 : w.heap.size + 1 ≤ (wn1.setRow w.heap.size (bcells X1).toArray).heap.size := by rw [setRow_size]; exact hz1
                  go_wp2_with (with_reducible first
                               | (refine wpList_store_row rfl 88 _ _ rfl w.heap.size (bcells X1).toArray rfl rfl 88 (bcells X).toArray HB1.out (info280' _) (by simp [bcells]) (all_oneCell_toArray (bcells_one _)) ?_)
                               | (refine wpList_load_row rfl 88 _ rfl w.heap.size rfl 88 (bcells X1).toArray (0, 0) _ HA3.out Try.underlying88 rfl (info280' _) ?_))
                  refine (PL2.out _).mono ?_
                  rintro en wn2 ⟨rfl, hbn⟩
                  have HB2 := Lib.hid ((hbn.block w.heap.size (by omega)).trans HA3.out)
                  have BN2 := Lib.hid (BW3.out.trans (hbn.mono (by omega)))
                  have hz2 : w.heap.size + 1 ≤ wn2.heap.size := Nat.le_trans hsz3 hbn.size
                  clear hbn
                  have HA4 := Lib.hid (setRow_heap wn2 w.heap.size _ (bcells X2).toArray _ _ HB2.out)
                  have BW4 := Lib.hid (below_setRow (cs := (bcells X2).toArray) BN2.out (Nat.le_refl _))
                  have hsz4 : w.heap.size + 1 ≤ (wn2.setRow w.heap.size (bcells X2).toArray).heap.size := by rw [setRow_size]; exact hz2
                  go_wp2_with (with_reducible first
                               | (refine wpList_store_row rfl 88 _ _ rfl w.heap.size (bcells X2).toArray rfl rfl 88 (bcells X1).toArray HB2.out (info280' _) (by simp [bcells]) (all_oneCell_toArray (bcells_one _)) ?_)
                               | (refine wpList_load_row rfl 88 _ rfl w.heap.size rfl 88 (bcells X2).toArray (0, 0) _ HA4.out Try.underlying88 rfl (info280' _) ?_))
                  refine (PL3.out _).mono ?_
                  rintro en wn3 ⟨rfl, hbn⟩
                  have HB3 := Lib.hid ((hbn.block w.heap.size (by omega)).trans HA4.out)
                  have BN3 := Lib.hid (BW4.out.trans (hbn.mono (by omega)))
                  have hz3 : w.heap.size + 1 ≤ wn3.heap.size := Nat.le_trans hsz4 hbn.size
                  clear hbn
                  have HA5 := Lib.hid (setRow_heap wn3 w.heap.size _ (bcells X3).toArray _ _ HB3.out)
                  have BW5 := Lib.hid (below_setRow (cs := (bcells X3).toArray) BN3.out (Nat.le_refl _))
                  have hsz5 : w.heap.size + 1 ≤ (wn3.setRow w.heap.size (bcells X3).toArray).heap.size := by rw [setRow_size]; exact hz3
                  go_wp2_with (with_reducible first
                               | (refine wpList_store_row rfl 88 _ _ rfl w.heap.size (bcells X3).toArray rfl rfl 88 (bcells X2).toArray HB3.out (info280' _) (by simp [bcells]) (all_oneCell_toArray (bcells_one _)) ?_)
                               | (refine wpList_load_row rfl 88 _ rfl w.heap.size rfl 88 (bcells X3).toArray (0, 0) _ HA5.out Try.underlying88 rfl (info280' _) ?_))
                  refine (PL4.out _).mono ?_
                  rintro en wn4 ⟨rfl, hbn⟩
                  have HB4 := Lib.hid ((hbn.block w.heap.size (by omega)).trans HA5.out)
                  have BN4 := Lib.hid (BW5.out.trans (hbn.mono (by omega)))
                  have hz4 : w.heap.size + 1 ≤ wn4.heap.size := Nat.le_trans hsz5 hbn.size
                  clear hbn
                  have HA6 := Lib.hid (setRow_heap wn4 w.heap.size _ (bcells X4).toArray _ _ HB4.out)
                  have BW6 := Lib.hid (below_setRow (cs := (bcells X4).toArray) BN4.out (Nat.le_refl _))
                  have hsz6 : w.heap.size + 1 ≤ (wn4.setRow w.heap.size (bcells X4).toArray).heap.size := by rw [setRow_size]; exact hz4
                  go_wp2_with (with_reducible first
                               | (refine wpList_store_row rfl 88 _ _ rfl w.heap.size (bcells X4).toArray rfl rfl 88 (bcells X3).toArray HB4.out (info280' _) (by simp [bcells]) (all_oneCell_toArray (bcells_one _)) ?_)
                               | (refine wpList_load_row rfl 88 _ rfl w.heap.size rfl 88 (bcells X4).toArray (0, 0) _ HA6.out Try.underlying88 rfl (info280' _) ?_))
                  go_roundw
                  case rel => exact ⟨k + 1, by go_num, by omega, EN.out, by rw [EP.out] <;> first | rfl | simp, by rw [EL.out] <;> first | rfl | simp, by rw [EM.out] <;> first | rfl | simp, BW6.out, hsz6, X4, HA6.out, HX4.out, HV4.out⟩
                  case measure => (simp [intOf] <;> omega)
            · rw [hi2] at hin2
              have hzy' : zerB y = false := by unfold zerB; rw [hi2]; simp
              rw [hzy'] at hzy
              cases hzx' : zerB x
              · rw [hzx'] at hzx
                have hd1 : dN x y = false := by (unfold dN; rw [hnx, hny, hi1, hi2, hzx', hzy']; rfl)
                have hd2 : dI x y = true := by unfold dI; rw [hi1, hi2]; simp
                rw [hd1, hd2] at eP eL eM
                rw [hd1] at eN
                rw [hd1, hd2, show (!false && !true) = false from rfl, if_neg Bool.false_ne_true, Int.add_zero] at eU
                have hng1 := fun w => pneg_any x w hbx
                have hng2 := fun w => pneg_any y w hby
                have hdg : (!(negB x == negB y)) = dG x y := rfl
                have eM2 : (a0 && !dxM f g (k + 1)) = false := by rw [eM]; simp
                have HX4 : Hid (∀ i, i < 280 → -(262140 * ((k + 1 : Nat) : Int)) ≤ X i ∧ X i ≤ 262140 * ((k + 1 : Nat) : Int)) := Lib.hid fun i hi => by have := HX.out i hi; omega
                have HV4 : Hid (bv X 280 = dxU f g (k + 1) * ((2 ^ K52 : Nat) : Int)) := Lib.hid (by rw [eU]; exact HBV.out)
                generalize dG x y = dg at *
                generalize negB x = sx at *
                generalize negB y = sy at *
                obtain ⟨al, hal1⟩ : ∃ b, b = (a0 && !dxM f g k) := ⟨_, rfl⟩
                obtain ⟨p, hp⟩ : ∃ b, b = dxP f g k := ⟨_, rfl⟩
                obtain ⟨l, hl⟩ : ∃ b, b = dxL f g k := ⟨_, rfl⟩
                rw [← hal1, ← hp, ← hl]
                rw [← hp] at eP
                rw [← hl] at eL
                have HNX := Lib.hid hno1; have HNY := Lib.hid hno2; have HIX := Lib.hid hin1; have HIY := Lib.hid hin2
                have HGX := Lib.hid hng1; have HGY := Lib.hid hng2
                have EP := Lib.hid eP; have EL := Lib.hid eL; have EN := Lib.hid eN; have EM := Lib.hid eM2
                clear hno1 hno2 hin1 hin2 hng1 hng2 eP eL eN eM eM2 eU hmono hal1 hp hl hd1 hd2
                clear hnx hny hi1 hi2 hzx' hzy'
                cases p
                · cases l
                  ·
                    go_wp2_with fail
                    refine Reg.wp_region_rd (by kernel_rfl) (by kernel_rfl) (fun _ => ?_)
                    repeat (refine Reg.rd_op rfl ?_; apply Exists.intro; apply And.intro; (intro w' hb; have hc := Reg.rd_cells hb; clear hb; go_simp; (try go_bits); first | done | (with_reducible exact rfl)); (intro _ a' ha'; simp only [Act.put, List.setIfInBounds_toArray, List.set_cons_zero, List.set_cons_succ] at ha'; subst ha'))
                    refine Reg.rd_end (fun wz hbr => ?_)
                    have BW2 := Lib.hid (BW.out.trans (hbr.mono BW.out.size))
                    have HA2 := Lib.hid ((hbr.block w.heap.size (by omega)).trans HA.out)
                    have hsz2 : w.heap.size + 1 ≤ wz.heap.size := Nat.le_trans hsz hbr.size
                    clear hbr
                    go_wp2_with fail
                    refine (HNX.out _).mono ?_
                    rintro en w' ⟨rfl, rfl⟩
                    go_wp2_with fail
                    refine (HNY.out _).mono ?_
                    rintro en w' ⟨rfl, rfl⟩
                    go_wp2_with fail
                    refine (HIX.out _).mono ?_
                    rintro en w' ⟨rfl, rfl⟩
                    go_wp2_with fail
                    refine (HIY.out _).mono ?_
                    rintro en w' ⟨rfl, rfl⟩
                    go_wp2_with fail
                    refine (HGX.out _).mono ?_
                    rintro en w' ⟨rfl, rfl⟩
                    go_wp2_with fail
                    refine (HGY.out _).mono ?_
                    rintro en w' ⟨rfl, rfl⟩
                    go_wp2_with fail
                    refine (HIX.out _).mono ?_
                    rintro en w' ⟨rfl, rfl⟩
                    go_wp2_with fail
                    refine (HIY.out _).mono ?_
                    rintro en w' ⟨rfl, rfl⟩
                    go_wp2_with fail
                    go_roundw
                    case rel => exact ⟨k + 1, by go_num, by omega, EN.out, by rw [EP.out] <;> first | rfl | simp, by rw [EL.out] <;> first | rfl | simp, by rw [EM.out] <;> first | rfl | simp, BW2.out, hsz2, X, HA2.out, HX4.out, HV4.out⟩
                    case measure => (simp [intOf] <;> omega)
                  ·
                    go_wp2_with fail
                    refine Reg.wp_region_rd (by kernel_rfl) (by kernel_rfl) (fun _ => ?_)
                    repeat (refine Reg.rd_op rfl ?_; apply Exists.intro; apply And.intro; (intro w' hb; have hc := Reg.rd_cells hb; clear hb; go_simp; (try go_bits); first | done | (with_reducible exact rfl)); (intro _ a' ha'; simp only [Act.put, List.setIfInBounds_toArray, List.set_cons_zero, List.set_cons_succ] at ha'; subst ha'))
                    refine Reg.rd_end (fun wz hbr => ?_)
                    have BW2 := Lib.hid (BW.out.trans (hbr.mono BW.out.size))
                    have HA2 := Lib.hid ((hbr.block w.heap.size (by omega)).trans HA.out)
                    have hsz2 : w.heap.size + 1 ≤ wz.heap.size := Nat.le_trans hsz hbr.size
                    clear hbr
                    go_wp2_with fail
                    refine (HNX.out _).mono ?_
                    rintro en w' ⟨rfl, rfl⟩
                    go_wp2_with fail
                    refine (HNY.out _).mono ?_
                    rintro en w' ⟨rfl, rfl⟩
                    go_wp2_with fail
                    refine (HIX.out _).mono ?_
                    rintro en w' ⟨rfl, rfl⟩
                    go_wp2_with fail
                    refine (HIY.out _).mono ?_
                    rintro en w' ⟨rfl, rfl⟩
                    go_wp2_with fail
                    refine (HGX.out _).mono ?_
                    rintro en w' ⟨rfl, rfl⟩
                    go_wp2_with fail
                    refine (HGY.out _).mono ?_
                    rintro en w' ⟨rfl, rfl⟩
                    go_wp2_with fail
                    refine (HIX.out _).mono ?_
                    rintro en w' ⟨rfl, rfl⟩
                    go_wp2_with fail
                    refine (HIY.out _).mono ?_
                    rintro en w' ⟨rfl, rfl⟩
                    go_wp2_with fail
                    go_roundw
                    case rel => exact ⟨k + 1, by go_num, by omega, EN.out, by rw [EP.out] <;> first | rfl | simp, by rw [EL.out] <;> first | rfl | simp, by rw [EM.out] <;> first | rfl | simp, BW2.out, hsz2, X, HA2.out, HX4.out, HV4.out⟩
                    case measure => (simp [intOf] <;> omega)
                · cases l
                  ·
                    go_wp2_with fail
                    refine Reg.wp_region_rd (by kernel_rfl) (by kernel_rfl) (fun _ => ?_)
                    repeat (refine Reg.rd_op rfl ?_; apply Exists.intro; apply And.intro; (intro w' hb; have hc := Reg.rd_cells hb; clear hb; go_simp; (try go_bits); first | done | (with_reducible exact rfl)); (intro _ a' ha'; simp only [Act.put, List.setIfInBounds_toArray, List.set_cons_zero, List.set_cons_succ] at ha'; subst ha'))
                    refine Reg.rd_end (fun wz hbr => ?_)
                    have BW2 := Lib.hid (BW.out.trans (hbr.mono BW.out.size))
                    have HA2 := Lib.hid ((hbr.block w.heap.size (by omega)).trans HA.out)
                    have hsz2 : w.heap.size + 1 ≤ wz.heap.size := Nat.le_trans hsz hbr.size
                    clear hbr
                    go_wp2_with fail
                    refine (HNX.out _).mono ?_
                    rintro en w' ⟨rfl, rfl⟩
                    go_wp2_with fail
                    refine (HNY.out _).mono ?_
                    rintro en w' ⟨rfl, rfl⟩
                    go_wp2_with fail
                    refine (HIX.out _).mono ?_
                    rintro en w' ⟨rfl, rfl⟩
                    go_wp2_with fail
                    refine (HIY.out _).mono ?_
                    rintro en w' ⟨rfl, rfl⟩
                    go_wp2_with fail
                    refine (HGX.out _).mono ?_
                    rintro en w' ⟨rfl, rfl⟩
                    go_wp2_with fail
                    refine (HGY.out _).mono ?_
                    rintro en w' ⟨rfl, rfl⟩
                    go_wp2_with fail
                    refine (HIX.out _).mono ?_
                    rintro en w' ⟨rfl, rfl⟩
                    go_wp2_with fail
                    refine (HIY.out _).mono ?_
                    rintro en w' ⟨rfl, rfl⟩
                    go_wp2_with fail
                    go_roundw
                    case rel => exact ⟨k + 1, by go_num, by omega, EN.out, by rw [EP.out] <;> first | rfl | simp, by rw [EL.out] <;> first | rfl | simp, by rw [EM.out] <;> first | rfl | simp, BW2.out, hsz2, X, HA2.out, HX4.out, HV4.out⟩
                    case measure => (simp [intOf] <;> omega)
                  ·
                    go_wp2_with fail
                    refine Reg.wp_region_rd (by kernel_rfl) (by kernel_rfl) (fun _ => ?_)
                    repeat (refine Reg.rd_op rfl ?_; apply Exists.intro; apply And.intro; (intro w' hb; have hc := Reg.rd_cells hb; clear hb; go_simp; (try go_bits); first | done | (with_reducible exact rfl)); (intro _ a' ha'; simp only [Act.put, List.setIfInBounds_toArray, List.set_cons_zero, List.set_cons_succ] at ha'; subst ha'))
                    refine Reg.rd_end (fun wz hbr => ?_)
                    have BW2 := Lib.hid (BW.out.trans (hbr.mono BW.out.size))
                    have HA2 := Lib.hid ((hbr.block w.heap.size (by omega)).trans HA.out)
                    have hsz2 : w.heap.size + 1 ≤ wz.heap.size := Nat.le_trans hsz hbr.size
                    clear hbr
                    go_wp2_with fail
                    refine (HNX.out _).mono ?_
                    rintro en w' ⟨rfl, rfl⟩
                    go_wp2_with fail
                    refine (HNY.out _).mono ?_
                    rintro en w' ⟨rfl, rfl⟩
                    go_wp2_with fail
                    refine (HIX.out _).mono ?_
                    rintro en w' ⟨rfl, rfl⟩
                    go_wp2_with fail
                    refine (HIY.out _).mono ?_
                    rintro en w' ⟨rfl, rfl⟩
                    go_wp2_with fail
                    refine (HGX.out _).mono ?_
                    rintro en w' ⟨rfl, rfl⟩
                    go_wp2_with fail
                    refine (HGY.out _).mono ?_
                    rintro en w' ⟨rfl, rfl⟩
                    go_wp2_with fail
                    refine (HIX.out _).mono ?_
                    rintro en w' ⟨rfl, rfl⟩
                    go_wp2_with fail
                    refine (HIY.out _).mono ?_
                    rintro en w' ⟨rfl, rfl⟩
                    go_wp2_with fail
                    go_roundw
                    case rel => exact ⟨k + 1, by go_num, by omega, EN.out, by rw [EP.out] <;> first | rfl | simp, by rw [EL.out] <;> first | rfl | simp, by rw [EM.out] <;> first | rfl | simp, BW2.out, hsz2, X, HA2.out, HX4.out, HV4.out⟩
                    case measure => (simp [intOf] <;> omega)
              · rw [hzx'] at hzx
                have hne : dxN f g n = true := hmono.out (by rw [eN]; (unfold dN; rw [hnx, hny, hi1, hi2, hzx', hzy']; rfl))
                have HRV := Lib.hid (rexdot_none hne)
                have HNX := Lib.hid hno1; have HNY := Lib.hid hno2; have HIX := Lib.hid hin1; have HIY := Lib.hid hin2
                clear hno1 hno2 hin1 hin2 eP eL eN eM eU hmono hne
                clear hnx hny hi1 hi2 hzx' hzy'
                go_wp2_with fail
                refine Reg.wp_region_rd (by kernel_rfl) (by kernel_rfl) (fun _ => ?_)
                repeat (refine Reg.rd_op rfl ?_; apply Exists.intro; apply And.intro; (intro w' hb; have hc := Reg.rd_cells hb; clear hb; go_simp; (try go_bits); first | done | (with_reducible exact rfl)); (intro _ a' ha'; simp only [Act.put, List.setIfInBounds_toArray, List.set_cons_zero, List.set_cons_succ] at ha'; subst ha'))
                refine Reg.rd_end (fun wz hbr => ?_)
                have BW2 := Lib.hid (BW.out.trans (hbr.mono BW.out.size))
                have HA2 := Lib.hid ((hbr.block w.heap.size (by omega)).trans HA.out)
                have hsz2 : w.heap.size + 1 ≤ wz.heap.size := Nat.le_trans hsz hbr.size
                clear hbr
                go_wp2_with fail
                refine (HNX.out _).mono ?_
                rintro en w' ⟨rfl, rfl⟩
                go_wp2_with fail
                refine (HNY.out _).mono ?_
                rintro en w' ⟨rfl, rfl⟩
                go_wp2_with fail
                refine (HIX.out _).mono ?_
                rintro en w' ⟨rfl, rfl⟩
                go_wp2_with fail
                refine (HIY.out _).mono ?_
                rintro en w' ⟨rfl, rfl⟩
                go_wp2_with fail
                refine (HNONE.out _).mono ?_
                rintro en w' ⟨rfl, rfl⟩
                go_wp2_with fail
                go_ret
                exact ⟨congrArg (fun x => Ending.returned (Value.float .f64 x)) HRV.out, BW2.out⟩
          · rw [hi1] at hin1
            have hzx' : zerB x = false := by unfold zerB; rw [hi1]; simp
            rw [hzx'] at hzx
            cases hzy' : zerB y
            · rw [hzy'] at hzy
              have hd1 : dN x y = false := by (unfold dN; rw [hnx, hny, hi1, hzx', hzy']; simp)
              have hd2 : dI x y = true := by unfold dI; rw [hi1]; simp
              rw [hd1, hd2] at eP eL eM
              rw [hd1] at eN
              rw [hd1, hd2, show (!false && !true) = false from rfl, if_neg Bool.false_ne_true, Int.add_zero] at eU
              have hng1 := fun w => pneg_any x w hbx
              have hng2 := fun w => pneg_any y w hby
              have hdg : (!(negB x == negB y)) = dG x y := rfl
              have eM2 : (a0 && !dxM f g (k + 1)) = false := by rw [eM]; simp
              have HX4 : Hid (∀ i, i < 280 → -(262140 * ((k + 1 : Nat) : Int)) ≤ X i ∧ X i ≤ 262140 * ((k + 1 : Nat) : Int)) := Lib.hid fun i hi => by have := HX.out i hi; omega
              have HV4 : Hid (bv X 280 = dxU f g (k + 1) * ((2 ^ K52 : Nat) : Int)) := Lib.hid (by rw [eU]; exact HBV.out)
              generalize dG x y = dg at *
              generalize negB x = sx at *
              generalize negB y = sy at *
              obtain ⟨al, hal1⟩ : ∃ b, b = (a0 && !dxM f g k) := ⟨_, rfl⟩
              obtain ⟨p, hp⟩ : ∃ b, b = dxP f g k := ⟨_, rfl⟩
              obtain ⟨l, hl⟩ : ∃ b, b = dxL f g k := ⟨_, rfl⟩
              rw [← hal1, ← hp, ← hl]
              rw [← hp] at eP
              rw [← hl] at eL
              have HNX := Lib.hid hno1; have HNY := Lib.hid hno2; have HIX := Lib.hid hin1; have HIY := Lib.hid hin2
              have HGX := Lib.hid hng1; have HGY := Lib.hid hng2
              have EP := Lib.hid eP; have EL := Lib.hid eL; have EN := Lib.hid eN; have EM := Lib.hid eM2
              clear hno1 hno2 hin1 hin2 hng1 hng2 eP eL eN eM eM2 eU hmono hal1 hp hl hd1 hd2
              clear hnx hny hi1 hzx' hzy'
              generalize infB y = i2 at HIY
              cases i2
              ·
                cases p
                · cases l
                  ·
                    go_wp2_with fail
                    refine Reg.wp_region_rd (by kernel_rfl) (by kernel_rfl) (fun _ => ?_)
                    repeat (refine Reg.rd_op rfl ?_; apply Exists.intro; apply And.intro; (intro w' hb; have hc := Reg.rd_cells hb; clear hb; go_simp; (try go_bits); first | done | (with_reducible exact rfl)); (intro _ a' ha'; simp only [Act.put, List.setIfInBounds_toArray, List.set_cons_zero, List.set_cons_succ] at ha'; subst ha'))
                    refine Reg.rd_end (fun wz hbr => ?_)
                    have BW2 := Lib.hid (BW.out.trans (hbr.mono BW.out.size))
                    have HA2 := Lib.hid ((hbr.block w.heap.size (by omega)).trans HA.out)
                    have hsz2 : w.heap.size + 1 ≤ wz.heap.size := Nat.le_trans hsz hbr.size
                    clear hbr
                    go_wp2_with fail
                    refine (HNX.out _).mono ?_
                    rintro en w' ⟨rfl, rfl⟩
                    go_wp2_with fail
                    refine (HNY.out _).mono ?_
                    rintro en w' ⟨rfl, rfl⟩
                    go_wp2_with fail
                    refine (HIX.out _).mono ?_
                    rintro en w' ⟨rfl, rfl⟩
                    go_wp2_with fail
                    refine (HIY.out _).mono ?_
                    rintro en w' ⟨rfl, rfl⟩
                    go_wp2_with fail
                    refine (HGX.out _).mono ?_
                    rintro en w' ⟨rfl, rfl⟩
                    go_wp2_with fail
                    refine (HGY.out _).mono ?_
                    rintro en w' ⟨rfl, rfl⟩
                    go_wp2_with fail
                    refine (HIX.out _).mono ?_
                    rintro en w' ⟨rfl, rfl⟩
                    go_wp2_with fail
                    go_roundw
                    case rel => exact ⟨k + 1, by go_num, by omega, EN.out, by rw [EP.out] <;> first | rfl | simp, by rw [EL.out] <;> first | rfl | simp, by rw [EM.out] <;> first | rfl | simp, BW2.out, hsz2, X, HA2.out, HX4.out, HV4.out⟩
                    case measure => (simp [intOf] <;> omega)
                  ·
                    go_wp2_with fail
                    refine Reg.wp_region_rd (by kernel_rfl) (by kernel_rfl) (fun _ => ?_)
                    repeat (refine Reg.rd_op rfl ?_; apply Exists.intro; apply And.intro; (intro w' hb; have hc := Reg.rd_cells hb; clear hb; go_simp; (try go_bits); first | done | (with_reducible exact rfl)); (intro _ a' ha'; simp only [Act.put, List.setIfInBounds_toArray, List.set_cons_zero, List.set_cons_succ] at ha'; subst ha'))
                    refine Reg.rd_end (fun wz hbr => ?_)
                    have BW2 := Lib.hid (BW.out.trans (hbr.mono BW.out.size))
                    have HA2 := Lib.hid ((hbr.block w.heap.size (by omega)).trans HA.out)
                    have hsz2 : w.heap.size + 1 ≤ wz.heap.size := Nat.le_trans hsz hbr.size
                    clear hbr
                    go_wp2_with fail
                    refine (HNX.out _).mono ?_
                    rintro en w' ⟨rfl, rfl⟩
                    go_wp2_with fail
                    refine (HNY.out _).mono ?_
                    rintro en w' ⟨rfl, rfl⟩
                    go_wp2_with fail
                    refine (HIX.out _).mono ?_
                    rintro en w' ⟨rfl, rfl⟩
                    go_wp2_with fail
                    refine (HIY.out _).mono ?_
                    rintro en w' ⟨rfl, rfl⟩
                    go_wp2_with fail
                    refine (HGX.out _).mono ?_
                    rintro en w' ⟨rfl, rfl⟩
                    go_wp2_with fail
                    refine (HGY.out _).mono ?_
                    rintro en w' ⟨rfl, rfl⟩
                    go_wp2_with fail
                    refine (HIX.out _).mono ?_
                    rintro en w' ⟨rfl, rfl⟩
                    go_wp2_with fail
                    go_roundw
                    case rel => exact ⟨k + 1, by go_num, by omega, EN.out, by rw [EP.out] <;> first | rfl | simp, by rw [EL.out] <;> first | rfl | simp, by rw [EM.out] <;> first | rfl | simp, BW2.out, hsz2, X, HA2.out, HX4.out, HV4.out⟩
                    case measure => (simp [intOf] <;> omega)
                · cases l
                  ·
                    go_wp2_with fail
                    refine Reg.wp_region_rd (by kernel_rfl) (by kernel_rfl) (fun _ => ?_)
                    repeat (refine Reg.rd_op rfl ?_; apply Exists.intro; apply And.intro; (intro w' hb; have hc := Reg.rd_cells hb; clear hb; go_simp; (try go_bits); first | done | (with_reducible exact rfl)); (intro _ a' ha'; simp only [Act.put, List.setIfInBounds_toArray, List.set_cons_zero, List.set_cons_succ] at ha'; subst ha'))
                    refine Reg.rd_end (fun wz hbr => ?_)
                    have BW2 := Lib.hid (BW.out.trans (hbr.mono BW.out.size))
                    have HA2 := Lib.hid ((hbr.block w.heap.size (by omega)).trans HA.out)
                    have hsz2 : w.heap.size + 1 ≤ wz.heap.size := Nat.le_trans hsz hbr.size
                    clear hbr
                    go_wp2_with fail
                    refine (HNX.out _).mono ?_
                    rintro en w' ⟨rfl, rfl⟩
                    go_wp2_with fail
                    refine (HNY.out _).mono ?_
                    rintro en w' ⟨rfl, rfl⟩
                    go_wp2_with fail
                    refine (HIX.out _).mono ?_
                    rintro en w' ⟨rfl, rfl⟩
                    go_wp2_with fail
                    refine (HIY.out _).mono ?_
                    rintro en w' ⟨rfl, rfl⟩
                    go_wp2_with fail
                    refine (HGX.out _).mono ?_
                    rintro en w' ⟨rfl, rfl⟩
                    go_wp2_with fail
                    refine (HGY.out _).mono ?_
                    rintro en w' ⟨rfl, rfl⟩
                    go_wp2_with fail
                    refine (HIX.out _).mono ?_
                    rintro en w' ⟨rfl, rfl⟩
                    go_wp2_with fail
                    go_roundw
                    case rel => exact ⟨k + 1, by go_num, by omega, EN.out, by rw [EP.out] <;> first | rfl | simp, by rw [EL.out] <;> first | rfl | simp, by rw [EM.out] <;> first | rfl | simp, BW2.out, hsz2, X, HA2.out, HX4.out, HV4.out⟩
                    case measure => (simp [intOf] <;> omega)
                  ·
                    go_wp2_with fail
                    refine Reg.wp_region_rd (by kernel_rfl) (by kernel_rfl) (fun _ => ?_)
                    repeat (refine Reg.rd_op rfl ?_; apply Exists.intro; apply And.intro; (intro w' hb; have hc := Reg.rd_cells hb; clear hb; go_simp; (try go_bits); first | done | (with_reducible exact rfl)); (intro _ a' ha'; simp only [Act.put, List.setIfInBounds_toArray, List.set_cons_zero, List.set_cons_succ] at ha'; subst ha'))
                    refine Reg.rd_end (fun wz hbr => ?_)
                    have BW2 := Lib.hid (BW.out.trans (hbr.mono BW.out.size))
                    have HA2 := Lib.hid ((hbr.block w.heap.size (by omega)).trans HA.out)
                    have hsz2 : w.heap.size + 1 ≤ wz.heap.size := Nat.le_trans hsz hbr.size
                    clear hbr
                    go_wp2_with fail
                    refine (HNX.out _).mono ?_
                    rintro en w' ⟨rfl, rfl⟩
                    go_wp2_with fail
                    refine (HNY.out _).mono ?_
                    rintro en w' ⟨rfl, rfl⟩
                    go_wp2_with fail
                    refine (HIX.out _).mono ?_
                    rintro en w' ⟨rfl, rfl⟩
                    go_wp2_with fail
                    refine (HIY.out _).mono ?_
                    rintro en w' ⟨rfl, rfl⟩
                    go_wp2_with fail
                    refine (HGX.out _).mono ?_
                    rintro en w' ⟨rfl, rfl⟩
                    go_wp2_with fail
                    refine (HGY.out _).mono ?_
                    rintro en w' ⟨rfl, rfl⟩
                    go_wp2_with fail
                    refine (HIX.out _).mono ?_
                    rintro en w' ⟨rfl, rfl⟩
                    go_wp2_with fail
                    go_roundw
                    case rel => exact ⟨k + 1, by go_num, by omega, EN.out, by rw [EP.out] <;> first | rfl | simp, by rw [EL.out] <;> first | rfl | simp, by rw [EM.out] <;> first | rfl | simp, BW2.out, hsz2, X, HA2.out, HX4.out, HV4.out⟩
                    case measure => (simp [intOf] <;> omega)
              ·
                cases p
                · cases l
                  ·
                    go_wp2_with fail
                    refine Reg.wp_region_rd (by kernel_rfl) (by kernel_rfl) (fun _ => ?_)
                    repeat (refine Reg.rd_op rfl ?_; apply Exists.intro; apply And.intro; (intro w' hb; have hc := Reg.rd_cells hb; clear hb; go_simp; (try go_bits); first | done | (with_reducible exact rfl)); (intro _ a' ha'; simp only [Act.put, List.setIfInBounds_toArray, List.set_cons_zero, List.set_cons_succ] at ha'; subst ha'))
                    refine Reg.rd_end (fun wz hbr => ?_)
                    have BW2 := Lib.hid (BW.out.trans (hbr.mono BW.out.size))
                    have HA2 := Lib.hid ((hbr.block w.heap.size (by omega)).trans HA.out)
                    have hsz2 : w.heap.size + 1 ≤ wz.heap.size := Nat.le_trans hsz hbr.size
                    clear hbr
                    go_wp2_with fail
                    refine (HNX.out _).mono ?_
                    rintro en w' ⟨rfl, rfl⟩
                    go_wp2_with fail
                    refine (HNY.out _).mono ?_
                    rintro en w' ⟨rfl, rfl⟩
                    go_wp2_with fail
                    refine (HIX.out _).mono ?_
                    rintro en w' ⟨rfl, rfl⟩
                    go_wp2_with fail
                    refine (HIY.out _).mono ?_
                    rintro en w' ⟨rfl, rfl⟩
                    go_wp2_with fail
                    refine (HGX.out _).mono ?_
                    rintro en w' ⟨rfl, rfl⟩
                    go_wp2_with fail
                    refine (HGY.out _).mono ?_
                    rintro en w' ⟨rfl, rfl⟩
                    go_wp2_with fail
                    refine (HIX.out _).mono ?_
                    rintro en w' ⟨rfl, rfl⟩
                    go_wp2_with fail
                    go_roundw
                    case rel => exact ⟨k + 1, by go_num, by omega, EN.out, by rw [EP.out] <;> first | rfl | simp, by rw [EL.out] <;> first | rfl | simp, by rw [EM.out] <;> first | rfl | simp, BW2.out, hsz2, X, HA2.out, HX4.out, HV4.out⟩
                    case measure => (simp [intOf] <;> omega)
                  ·
                    go_wp2_with fail
                    refine Reg.wp_region_rd (by kernel_rfl) (by kernel_rfl) (fun _ => ?_)
                    repeat (refine Reg.rd_op rfl ?_; apply Exists.intro; apply And.intro; (intro w' hb; have hc := Reg.rd_cells hb; clear hb; go_simp; (try go_bits); first | done | (with_reducible exact rfl)); (intro _ a' ha'; simp only [Act.put, List.setIfInBounds_toArray, List.set_cons_zero, List.set_cons_succ] at ha'; subst ha'))
                    refine Reg.rd_end (fun wz hbr => ?_)
                    have BW2 := Lib.hid (BW.out.trans (hbr.mono BW.out.size))
                    have HA2 := Lib.hid ((hbr.block w.heap.size (by omega)).trans HA.out)
                    have hsz2 : w.heap.size + 1 ≤ wz.heap.size := Nat.le_trans hsz hbr.size
                    clear hbr
                    go_wp2_with fail
                    refine (HNX.out _).mono ?_
                    rintro en w' ⟨rfl, rfl⟩
                    go_wp2_with fail
                    refine (HNY.out _).mono ?_
                    rintro en w' ⟨rfl, rfl⟩
                    go_wp2_with fail
                    refine (HIX.out _).mono ?_
                    rintro en w' ⟨rfl, rfl⟩
                    go_wp2_with fail
                    refine (HIY.out _).mono ?_
                    rintro en w' ⟨rfl, rfl⟩
                    go_wp2_with fail
                    refine (HGX.out _).mono ?_
                    rintro en w' ⟨rfl, rfl⟩
                    go_wp2_with fail
                    refine (HGY.out _).mono ?_
                    rintro en w' ⟨rfl, rfl⟩
                    go_wp2_with fail
                    refine (HIX.out _).mono ?_
                    rintro en w' ⟨rfl, rfl⟩
                    go_wp2_with fail
                    go_roundw
                    case rel => exact ⟨k + 1, by go_num, by omega, EN.out, by rw [EP.out] <;> first | rfl | simp, by rw [EL.out] <;> first | rfl | simp, by rw [EM.out] <;> first | rfl | simp, BW2.out, hsz2, X, HA2.out, HX4.out, HV4.out⟩
                    case measure => (simp [intOf] <;> omega)
                · cases l
                  ·
                    go_wp2_with fail
                    refine Reg.wp_region_rd (by kernel_rfl) (by kernel_rfl) (fun _ => ?_)
                    repeat (refine Reg.rd_op rfl ?_; apply Exists.intro; apply And.intro; (intro w' hb; have hc := Reg.rd_cells hb; clear hb; go_simp; (try go_bits); first | done | (with_reducible exact rfl)); (intro _ a' ha'; simp only [Act.put, List.setIfInBounds_toArray, List.set_cons_zero, List.set_cons_succ] at ha'; subst ha'))
                    refine Reg.rd_end (fun wz hbr => ?_)
                    have BW2 := Lib.hid (BW.out.trans (hbr.mono BW.out.size))
                    have HA2 := Lib.hid ((hbr.block w.heap.size (by omega)).trans HA.out)
                    have hsz2 : w.heap.size + 1 ≤ wz.heap.size := Nat.le_trans hsz hbr.size
                    clear hbr
                    go_wp2_with fail
                    refine (HNX.out _).mono ?_
                    rintro en w' ⟨rfl, rfl⟩
                    go_wp2_with fail
                    refine (HNY.out _).mono ?_
                    rintro en w' ⟨rfl, rfl⟩
                    go_wp2_with fail
                    refine (HIX.out _).mono ?_
                    rintro en w' ⟨rfl, rfl⟩
                    go_wp2_with fail
                    refine (HIY.out _).mono ?_
                    rintro en w' ⟨rfl, rfl⟩
                    go_wp2_with fail
                    refine (HGX.out _).mono ?_
                    rintro en w' ⟨rfl, rfl⟩
                    go_wp2_with fail
                    refine (HGY.out _).mono ?_
                    rintro en w' ⟨rfl, rfl⟩
                    go_wp2_with fail
                    refine (HIX.out _).mono ?_
                    rintro en w' ⟨rfl, rfl⟩
                    go_wp2_with fail
                    go_roundw
                    case rel => exact ⟨k + 1, by go_num, by omega, EN.out, by rw [EP.out] <;> first | rfl | simp, by rw [EL.out] <;> first | rfl | simp, by rw [EM.out] <;> first | rfl | simp, BW2.out, hsz2, X, HA2.out, HX4.out, HV4.out⟩
                    case measure => (simp [intOf] <;> omega)
                  ·
                    go_wp2_with fail
                    refine Reg.wp_region_rd (by kernel_rfl) (by kernel_rfl) (fun _ => ?_)
                    repeat (refine Reg.rd_op rfl ?_; apply Exists.intro; apply And.intro; (intro w' hb; have hc := Reg.rd_cells hb; clear hb; go_simp; (try go_bits); first | done | (with_reducible exact rfl)); (intro _ a' ha'; simp only [Act.put, List.setIfInBounds_toArray, List.set_cons_zero, List.set_cons_succ] at ha'; subst ha'))
                    refine Reg.rd_end (fun wz hbr => ?_)
                    have BW2 := Lib.hid (BW.out.trans (hbr.mono BW.out.size))
                    have HA2 := Lib.hid ((hbr.block w.heap.size (by omega)).trans HA.out)
                    have hsz2 : w.heap.size + 1 ≤ wz.heap.size := Nat.le_trans hsz hbr.size
                    clear hbr
                    go_wp2_with fail
                    refine (HNX.out _).mono ?_
                    rintro en w' ⟨rfl, rfl⟩
                    go_wp2_with fail
                    refine (HNY.out _).mono ?_
                    rintro en w' ⟨rfl, rfl⟩
                    go_wp2_with fail
                    refine (HIX.out _).mono ?_
                    rintro en w' ⟨rfl, rfl⟩
                    go_wp2_with fail
                    refine (HIY.out _).mono ?_
                    rintro en w' ⟨rfl, rfl⟩
                    go_wp2_with fail
                    refine (HGX.out _).mono ?_
                    rintro en w' ⟨rfl, rfl⟩
                    go_wp2_with fail
                    refine (HGY.out _).mono ?_
                    rintro en w' ⟨rfl, rfl⟩
                    go_wp2_with fail
                    refine (HIX.out _).mono ?_
                    rintro en w' ⟨rfl, rfl⟩
                    go_wp2_with fail
                    go_roundw
                    case rel => exact ⟨k + 1, by go_num, by omega, EN.out, by rw [EP.out] <;> first | rfl | simp, by rw [EL.out] <;> first | rfl | simp, by rw [EM.out] <;> first | rfl | simp, BW2.out, hsz2, X, HA2.out, HX4.out, HV4.out⟩
                    case measure => (simp [intOf] <;> omega)
            · rw [hzy'] at hzy
              have hne : dxN f g n = true := hmono.out (by rw [eN]; (unfold dN; rw [hnx, hny, hi1, hzx', hzy']; simp))
              have HRV := Lib.hid (rexdot_none hne)
              have HNX := Lib.hid hno1; have HNY := Lib.hid hno2; have HIX := Lib.hid hin1; have HIY := Lib.hid hin2
              clear hno1 hno2 hin1 hin2 eP eL eN eM eU hmono hne
              clear hnx hny hi1 hzx' hzy'
              go_wp2_with fail
              refine Reg.wp_region_rd (by kernel_rfl) (by kernel_rfl) (fun _ => ?_)
              repeat (refine Reg.rd_op rfl ?_; apply Exists.intro; apply And.intro; (intro w' hb; have hc := Reg.rd_cells hb; clear hb; go_simp; (try go_bits); first | done | (with_reducible exact rfl)); (intro _ a' ha'; simp only [Act.put, List.setIfInBounds_toArray, List.set_cons_zero, List.set_cons_succ] at ha'; subst ha'))
              refine Reg.rd_end (fun wz hbr => ?_)
              have BW2 := Lib.hid (BW.out.trans (hbr.mono BW.out.size))
              have HA2 := Lib.hid ((hbr.block w.heap.size (by omega)).trans HA.out)
              have hsz2 : w.heap.size + 1 ≤ wz.heap.size := Nat.le_trans hsz hbr.size
              clear hbr
              go_wp2_with fail
              refine (HNX.out _).mono ?_
              rintro en w' ⟨rfl, rfl⟩
              go_wp2_with fail
              refine (HNY.out _).mono ?_
              rintro en w' ⟨rfl, rfl⟩
              go_wp2_with fail
              refine (HIX.out _).mono ?_
              rintro en w' ⟨rfl, rfl⟩
              go_wp2_with fail
              refine (HNONE.out _).mono ?_
              rintro en w' ⟨rfl, rfl⟩
              go_wp2_with fail
              go_ret
              exact ⟨congrArg (fun x => Ending.returned (Value.float .f64 x)) HRV.out, BW2.out⟩
        · rw [hny] at hno2
          have hne : dxN f g n = true := hmono.out (by rw [eN]; (unfold dN; rw [hnx, hny]; rfl))
          have HRV := Lib.hid (rexdot_none hne)
          have HNX := Lib.hid hno1; have HNY := Lib.hid hno2; have HIX := Lib.hid hin1; have HIY := Lib.hid hin2
          clear hno1 hno2 hin1 hin2 eP eL eN eM eU hmono hne
          clear hnx hny
          go_wp2_with fail
          refine Reg.wp_region_rd (by kernel_rfl) (by kernel_rfl) (fun _ => ?_)
          repeat (refine Reg.rd_op rfl ?_; apply Exists.intro; apply And.intro; (intro w' hb; have hc := Reg.rd_cells hb; clear hb; go_simp; (try go_bits); first | done | (with_reducible exact rfl)); (intro _ a' ha'; simp only [Act.put, List.setIfInBounds_toArray, List.set_cons_zero, List.set_cons_succ] at ha'; subst ha'))
          refine Reg.rd_end (fun wz hbr => ?_)
          have BW2 := Lib.hid (BW.out.trans (hbr.mono BW.out.size))
          have HA2 := Lib.hid ((hbr.block w.heap.size (by omega)).trans HA.out)
          have hsz2 : w.heap.size + 1 ≤ wz.heap.size := Nat.le_trans hsz hbr.size
          clear hbr
          go_wp2_with fail
          refine (HNX.out _).mono ?_
          rintro en w' ⟨rfl, rfl⟩
          go_wp2_with fail
          refine (HNY.out _).mono ?_
          rintro en w' ⟨rfl, rfl⟩
          go_wp2_with fail
          refine (HNONE.out _).mono ?_
          rintro en w' ⟨rfl, rfl⟩
          go_wp2_with fail
          go_ret
          exact ⟨congrArg (fun x => Ending.returned (Value.float .f64 x)) HRV.out, BW2.out⟩
      · rw [hnx] at hno1
        have hne : dxN f g n = true := hmono.out (by rw [eN]; (unfold dN; rw [hnx]; rfl))
        have HRV := Lib.hid (rexdot_none hne)
        have HNX := Lib.hid hno1; have HNY := Lib.hid hno2; have HIX := Lib.hid hin1; have HIY := Lib.hid hin2
        clear hno1 hno2 hin1 hin2 eP eL eN eM eU hmono hne
        clear hnx
        go_wp2_with fail
        refine Reg.wp_region_rd (by kernel_rfl) (by kernel_rfl) (fun _ => ?_)
        repeat (refine Reg.rd_op rfl ?_; apply Exists.intro; apply And.intro; (intro w' hb; have hc := Reg.rd_cells hb; clear hb; go_simp; (try go_bits); first | done | (with_reducible exact rfl)); (intro _ a' ha'; simp only [Act.put, List.setIfInBounds_toArray, List.set_cons_zero, List.set_cons_succ] at ha'; subst ha'))
        refine Reg.rd_end (fun wz hbr => ?_)
        have BW2 := Lib.hid (BW.out.trans (hbr.mono BW.out.size))
        have HA2 := Lib.hid ((hbr.block w.heap.size (by omega)).trans HA.out)
        have hsz2 : w.heap.size + 1 ≤ wz.heap.size := Nat.le_trans hsz hbr.size
        clear hbr
        go_wp2_with fail
        refine (HNX.out _).mono ?_
        rintro en w' ⟨rfl, rfl⟩
        go_wp2_with fail
        refine (HNONE.out _).mono ?_
        rintro en w' ⟨rfl, rfl⟩
        go_wp2_with fail
        go_ret
        exact ⟨congrArg (fun x => Ending.returned (Value.float .f64 x)) HRV.out, BW2.out⟩
    · obtain rfl : k = n := by omega
      have hrv : rexdotV f g k = if dxN f g k || (dxP f g k && dxL f g k) then 9218868437227405313 else exV (dxN f g k) (dxP f g k) (dxL f g k) (dxS f g k) (dxM f g k) (dxU f g k) 2148 := rfl
      rw [HNK.out, Bool.false_or, dxS_all k HNK.out, ← HA00.out] at hrv
      unfold exV at hrv
      rw [Bool.false_or] at hrv
      have hout := fun w => out_any X (a0 && !dxM f g k) (262140 * (k : Int)) w (by omega) HX.out (by rw [HBV.out]; exact small_dot hn HF.out HG.out)
      rw [HBV.out, out_dot] at hout
      obtain ⟨ov, hov⟩ : ∃ v, v = if dxU f g k = 0 then (if a0 && !dxM f g k then 9223372036854775808 else 0) else fvN (dxU f g k) 2148 := ⟨_, rfl⟩
      rw [← hov] at hout hrv
      obtain ⟨al, hal⟩ : ∃ b, b = (a0 && !dxM f g k) := ⟨_, rfl⟩
      rw [← hal] at hout ⊢
      have HOUT := Lib.hid hout
      have hsz0 : w.heap.size ≤ wr.heap.size := by omega
      clear hov hal hout
      cases hp : dxP f g k
      · rw [hp, Bool.false_and, if_neg Bool.false_ne_true, if_neg Bool.false_ne_true] at hrv
        cases hl : dxL f g k
        · rw [hl, if_neg Bool.false_ne_true] at hrv
          have HRV := Lib.hid hrv.symm
          clear hrv hp hl
          go_wp2_with (with_reducible refine wpList_load_row rfl 88 _ rfl w.heap.size rfl 88 (bcells X).toArray (0, 0) _ HA.out Try.underlying88 rfl (info280' _) ?_)
          refine (HOUT.out _).mono ?_
          rintro en wn ⟨rfl, hbn⟩
          have BW1 := Lib.hid (BW.out.trans (hbn.mono hsz0))
          clear hbn
          go_wp2_with fail
          go_ret
          exact ⟨congrArg (fun x => Ending.returned (Value.float .f64 x)) HRV.out, BW1.out⟩
        · rw [hl, if_pos rfl] at hrv
          have HRV := Lib.hid hrv.symm
          clear hrv hp hl
          go_wp2_with fail
          go_ret
          exact ⟨congrArg (fun x => Ending.returned (Value.float .f64 x)) HRV.out, BW.out⟩
      · cases hl : dxL f g k
        · rw [hp, hl, Bool.and_false, if_neg Bool.false_ne_true, if_neg Bool.false_ne_true, if_pos rfl] at hrv
          have HRV := Lib.hid hrv.symm
          clear hrv hp hl
          go_wp2_with fail
          go_ret
          exact ⟨congrArg (fun x => Ending.returned (Value.float .f64 x)) HRV.out, BW.out⟩
        · rw [hp, hl, Bool.and_true, if_pos rfl] at hrv
          have HRV := Lib.hid hrv.symm
          clear hrv hp hl
          go_wp2_with fail
          refine (HNONE.out _).mono ?_
          rintro en w' ⟨rfl, rfl⟩
          go_wp2_with fail
          go_ret
          exact ⟨congrArg (fun x => Ending.returned (Value.float .f64 x)) HRV.out, BW.out⟩
end Go.Proofs.Ytjakjnmfndfehaa
