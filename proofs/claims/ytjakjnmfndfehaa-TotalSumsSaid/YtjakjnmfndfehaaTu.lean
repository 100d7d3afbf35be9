/- The document's exact sum: the walk. Condition: at most 65536 numbers of 64 bits. -/
import Derived.Test.YtjakjnmfndfehaaTt
namespace Go.Pst
open Go Ieee Go.Proofs.Ytjakjnmfndfehaa
set_option linter.unusedVariables false
def K11 : Nat := 1126
theorem bv_zero : ∀ n, bv (fun _ => 0) n = 0
  | 0 => rfl
  | n + 1 => by unfold bv; rw [bv_zero n, Int.zero_mul, Int.add_zero]
theorem exN_mono {f : Nat → Nat} {k : Nat} (h : exN f k = true) : ∀ n, k ≤ n → exN f n = true
  | 0, hn => by rw [show (0 : Nat) = k by omega]; exact h
  | n + 1, hn => by
    by_cases e : k = n + 1
    · rw [← e]; exact h
    · unfold exN; rw [exN_mono h n (by omega)]; rfl
theorem exS_all {f : Nat → Nat} : ∀ n, exN f n = false → exS f n = decide (0 < n)
  | 0, _ => rfl
  | n + 1, h => by
    unfold exN at h
    rw [Bool.or_eq_false_iff] at h
    unfold exS
    rw [h.2]; simp
/-- The document's answer: the exact sum, or its own bits of no number. -/
def rexV (f : Nat → Nat) (n : Nat) : Nat := if exN f n || (exP f n && exL f n) then 9218868437227405313 else exactV f n
theorem wrd_false (r : Nat) : wrd false r = r := by unfold wrd; rw [if_neg Bool.false_ne_true]
theorem out_gen {S : Int} {all : Bool} (Z : Nat) (hZ : 0 < Z) (hr : rndN 52 11 (S.natAbs * Z) (-2200) = rndN 52 11 S.natAbs (-1074)) : outV (S * (Z : Int)) all = if S = 0 then (if all then 9223372036854775808 else 0) else fvN S 1074 := by
  have hp : (0 : Int) < (Z : Int) := by omega
  have h0 : S * (Z : Int) = 0 ↔ S = 0 := by
    constructor
    · intro h; rcases Int.mul_eq_zero.1 h with h | h
      · exact h
      · omega
    · intro h; rw [h, Int.zero_mul]
  have h1 : S * (Z : Int) < 0 ↔ S < 0 := by
    constructor
    · intro h; rcases Int.lt_or_le S 0 with h2 | h2
      · exact h2
      · have := Int.mul_nonneg h2 (Int.le_of_lt hp); omega
    · intro h; exact Int.mul_neg_of_neg_of_pos h hp
  unfold outV fvN
  by_cases h : S = 0
  · rw [if_pos (h0.2 h), if_pos h]
  · rw [if_neg (mt h0.1 h), if_neg h]
    have hn : (S * (Z : Int)).natAbs = S.natAbs * Z := by rw [Int.natAbs_mul, Int.natAbs_natCast]
    rw [hn, hr]
    have hl := rnd_lt63 S.natAbs (-1074)
    generalize rndN 52 11 S.natAbs (-1074) = r at *
    by_cases h2 : S < 0
    · rw [if_pos (h1.2 h2), decide_eq_true h2]
      exact flipF_low hl
    · rw [if_neg (mt h1.1 h2), decide_eq_false h2, wrd_false]
theorem out_exact {S : Int} {all : Bool} : outV (S * ((2 ^ K11 : Nat) : Int)) all = if S = 0 then (if all then 9223372036854775808 else 0) else fvN S 1074 := by
  have hr := rnd_shift 52 11 S.natAbs K11 (-1074)
  rw [show (-1074 : Int) - (K11 : Int) = -2200 by decide] at hr
  exact out_gen _ (Nat.two_pow_pos K11) hr
theorem small_out {f : Nat → Nat} {n : Nat} (hn : n ≤ 65536) (h : ∀ j, j < n → f j < 2 ^ 64) : (exSum f n * ((2 ^ K11 : Nat) : Int)).natAbs < D28 := by
  have h1 := exSum_bd n h
  have h2 : n * 2 ^ K21 ≤ 2 ^ 16 * 2 ^ K21 := Nat.mul_le_mul_right _ (by omega)
  rw [← Nat.pow_add] at h2
  have h3 := Nat.mul_le_mul_right (2 ^ K11) (Nat.le_trans h1 h2)
  rw [← Nat.pow_add] at h3
  rw [Int.natAbs_mul, Int.natAbs_natCast]
  refine Nat.lt_of_le_of_lt h3 ?_
  unfold D28
  rw [show (65536 : Nat) = 2 ^ 16 from rfl, ← Nat.pow_mul]
  exact Nat.pow_lt_pow_right (by omega) (by decide)
theorem inf_gt {b : Nat} (hb : b < 2 ^ 64) (hi : infB b = true) : fgt .f64 b 0 = !negB b := by
  unfold infB at hi
  simp only [decide_eq_true_eq] at hi
  have hn : nan64 b = false := by unfold nan64; rw [hi]; decide
  rw [fgt64, hn, show nan64 0 = false from rfl, show key64 0 = 0 from rfl]
  unfold key64 negB
  rcases Nat.lt_or_ge b 9223372036854775808 with h | h
  · rw [if_neg (by omega), decide_eq_false (by omega : ¬ 9223372036854775808 ≤ b)]
    simp
    omega
  · rw [if_pos (by omega), decide_eq_true h]
    simp
    omega
theorem feq_mag {x : Nat} (h : finB x) : feq .f64 x 0 = decide (magN x = 0) := by
  rw [feq_fin h (show finB 0 from ⟨by omega, by decide, by decide⟩), show valZ 0 = 0 by decide]
  rw [decide_eq_decide, mag_abs]
  omega
end Go.Pst
namespace Go.Proofs.Ytjakjnmfndfehaa
open Go.RowKit Go.Pst
set_option maxRecDepth 20000
set_option linter.unusedSimpArgs false
set_option linter.unusedVariables false
attribute [local go_sem] m64bits m64from


set_option maxHeartbeats 8000000 in
theorem rexact_any (n c : Nat) (A : Option Addr) (f : Nat → Nat) (w : World) (hA : FlAt w w.heap.size A n f) (hn : n ≤ 65536) (hf : ∀ j, j < n → f j < 2 ^ 64) :
    Calls Try.prog 28 #[.slice A n c] w fun en w' => en = .returned (.float .f64 (rexV f n)) ∧ Below w.heap.size w w' := by
  have HA0 := Lib.hid hA; have HF := Lib.hid hf
  have HNONE := Lib.hid fun w => pNone_any w
  obtain ⟨a0, ha0⟩ : ∃ a, a = decide (0 < n) := ⟨_, rfl⟩
  have ha1 : decide ((n : Int) > 0) = a0 := by rw [ha0, decide_eq_decide]; omega
  have ha2 : decide (0 < (n : Int)) = a0 := ha1
  have HA00 := Lib.hid ha0
  clear hA hf ha0
  go_enter Try.func28, Try.ntmps28
  go_wp2_with (with_reducible refine wpList_store_row rfl 88 _ _ rfl w.heap.size (bcells fun _ => 0).toArray rfl rfl 88 (bcells fun _ => 0).toArray (by rw [heap_alloc_new, bcells_zero]) (info280' _) (by simp [bcells]) (all_oneCell_toArray (bcells_one _)) ?_)
  go_loopw [3, 4, 5, 7] (fun up dn al t wr => ∃ k : Nat, t = .int .i64 k ∧ k ≤ n ∧ exN f k = false ∧ up = .bool (exP f k) ∧ dn = .bool (exL f k) ∧ al = .bool (a0 && !exM f k) ∧ Below w.heap.size w wr ∧ w.heap.size + 1 ≤ wr.heap.size ∧
      ∃ X, wr.heap[w.heap.size]? = some (.cells (bcells X).toArray 88 (0, 0)) ∧ (∀ i, i < 280 → -(65535 * (k : Int)) ≤ X i ∧ X i ≤ 65535 * (k : Int)) ∧ bv X 280 = exSum f k * ((2 ^ K11 : Nat) : Int)) (fun _ _ _ t _ => n - (intOf t).toNat)
  case atStart =>
    exact ⟨0, rfl, by omega, rfl, rfl, rfl, by rw [HA00.out, show exM f 0 = false from rfl, Bool.not_false, Bool.and_true], below_setRow ((Below.refl _ _).alloc (Nat.le_refl _) _) (Nat.le_refl _), by rw [setRow_size]; simp,
      _, setRow_heap _ _ Try.zeroCells88 _ _ _ (heap_alloc_new _ _), fun i _ => by simp, by rw [show exSum f 0 = 0 from rfl, Int.zero_mul]; exact bv_zero 280⟩
  case round =>
    obtain ⟨k, rfl, hk, hnk, rfl, rfl, rfl, hw, hsz, X, ha, hx, hbv⟩ := hrel
    have HA := Lib.hid ha; have BW := Lib.hid hw; have HX := Lib.hid hx; have HBV := Lib.hid hbv; have HNK := Lib.hid hnk
    clear ha hw hx hbv hnk
    by_cases hkn : k < n
    · have h3 : (k : Int) < (n : Int) := by omega
      have h0 : 0 ≤ (k : Int) := by omega
      obtain ⟨a, o, rfl, haw, hc⟩ := (HA0.out.below BW.out (Nat.le_refl _)) (by omega)
      have q := hc k hkn
      have hb := HF.out k hkn
      have eP : exP f (k + 1) = (exP f k || (!nan64 (f k) && infB (f k) && !negB (f k))) := rfl
      have eL : exL f (k + 1) = (exL f k || (!nan64 (f k) && infB (f k) && negB (f k))) := rfl
      have eN : exN f (k + 1) = (exN f k || nan64 (f k)) := rfl
      have eM : exM f (k + 1) = (exM f k || (!nan64 (f k) && (infB (f k) || decide (magN (f k) ≠ 0) || !negB (f k)))) := rfl
      have eU : exSum f (k + 1) = exSum f k + (if finF (f k) then valZ (f k) else 0) := rfl
      have hfd : finF (f k) = (!nan64 (f k) && !infB (f k)) := rfl
      have hmono := Lib.hid fun h => exN_mono (f := f) (k := k + 1) h n (by omega)
      clear hc
      obtain ⟨x, hx⟩ : ∃ x, x = f k := ⟨_, rfl⟩
      rw [← hx] at q hb eP eL eN eM eU hfd
      clear hx
      rw [HNK.out, Bool.false_or] at eN
      have hno := fun w => pnone_any x w
      have hin := fun w => pinf_any x w hb
      cases hnx : nan64 x
      · rw [hnx] at eP eL eN eM hfd hno
        cases hix : infB x
        · rw [hix] at eP eL eM hfd hin
          have hfin : finB x := (finF_iff hb).1 (by rw [hfd]; rfl)
          rw [show finF x = true from by rw [hfd]; rfl, if_pos rfl] at eU
          rw [Bool.false_or, Bool.not_false, Bool.true_and] at eM
          rw [Bool.not_false, Bool.true_and, Bool.false_and, Bool.or_false] at eP eL
          have EP := Lib.hid eP; have EL := Lib.hid eL; have EN := Lib.hid eN
          have HNO := Lib.hid hno; have HIN := Lib.hid hin
          have hpl := place_fin hfin
          have hml : mantB x < W64 := Nat.lt_of_lt_of_le (mant_lt x) (by decide)
          have hpa := fun w => pparts_any x w hb
          obtain ⟨at', hat⟩ : ∃ a, a = placeB x + 1126 := ⟨_, rfl⟩
          rw [show (placeB x : Int) - 1074 = (at' : Int) - 2200 by omega] at hpa
          have HPA := Lib.hid hpa
          have HPL := Lib.hid fun w => plus_any X (mantB x) at' (negB x) (65535 * (k : Int)) w hml (by omega) (by omega) HX.out
          have hbd : ∀ i, i < 280 → -(65535 * ((k + 1 : Nat) : Int)) ≤ plusD X (mantB x) (at' % 16) (at' / 16) (negB x) 5 i ∧ plusD X (mantB x) (at' % 16) (at' / 16) (negB x) 5 i ≤ 65535 * ((k + 1 : Nat) : Int) := fun i hi => by
            have := plusD_bd (X := X) (m := mantB x) (s := at' % 16) (k := at' / 16) (neg := negB x) (b := 65535 * (k : Int)) hml (Nat.mod_lt _ (by omega)) (j := 5) (i := i) (HX.out i hi)
            omega
          have HX2 := Lib.hid hbd
          have hbs := bv_plus5 (X := X) (m := mantB x) (s := at' % 16) (k := at' / 16) (n := 280) (neg := negB x) (by omega) hml (Nat.mod_lt _ (by omega))
          have hmag : sgn (negB x) (mantB x * 2 ^ (16 * (at' / 16) + at' % 16)) = valZ x * ((2 ^ K11 : Nat) : Int) := by
            rw [show 16 * (at' / 16) + at' % 16 = placeB x + K11 by unfold K11; omega, Nat.pow_add, ← Nat.mul_assoc, valZ_mag]
            exact (sgn_mul _ _ _).symm
          rw [hmag, HBV.out, ← Int.add_mul, ← eU] at hbs
          have HBV2 := Lib.hid hbs
          have HNG := Lib.hid fun w => pneg_any x w hb
          have hfq := feq_mag hfin
          obtain ⟨X2, hX2⟩ : ∃ Y, Y = plusD X (mantB x) (at' % 16) (at' / 16) (negB x) 5 := ⟨_, rfl⟩
          rw [← hX2] at HPL HX2 HBV2
          clear hX2 hbs hmag hbd hpa hat hpl hml eP eL eN eU hno hin hfd hnx hix hfin
          obtain ⟨al, hal⟩ : ∃ b, b = (a0 && !exM f k) := ⟨_, rfl⟩
          obtain ⟨zr, hzr⟩ : ∃ b, b = decide (magN x = 0) := ⟨_, rfl⟩
          have eM2 : (a0 && !exM f (k + 1)) = (al && zr && negB x) := by
            rw [eM, hal, hzr]
            cases a0 <;> cases exM f k <;> cases negB x <;> by_cases h : magN x = 0 <;> simp [h]
          rw [← hzr] at hfq
          rw [← hal]
          clear eM hal hzr hmono
          have HEM := Lib.hid eM2
          clear eM2
          cases al
          ·
            go_wp2_with fail
            refine (HNO.out _).mono ?_
            rintro en w' ⟨rfl, rfl⟩
            go_wp2_with fail
            refine (HIN.out _).mono ?_
            rintro en w' ⟨rfl, rfl⟩
            go_wp2_with fail
            skip
            refine (HPA.out _).mono ?_
            rintro en w' ⟨rfl, rfl⟩
            go_wp2_with (with_reducible refine wpList_load_row rfl 88 _ rfl w.heap.size rfl 88 (bcells X).toArray (0, 0) _ HA.out Try.underlying88 rfl (info280' _) ?_)
            refine (HPL.out _).mono ?_
            rintro en wn ⟨rfl, hbn⟩
            have zz := BW.out.size
            have HA1 := Lib.hid ((hbn.block w.heap.size (by omega)).trans HA.out)
            have BW1 := Lib.hid (BW.out.trans (hbn.mono zz))
            have hsz1 : w.heap.size + 1 ≤ wn.heap.size := Nat.le_trans hsz hbn.size
            clear hbn HPL
            go_wp2_with (with_reducible refine wpList_store_row rfl 88 _ _ rfl w.heap.size (bcells X2).toArray rfl rfl 88 (bcells X).toArray HA1.out (info280' _) (by simp [bcells]) (all_oneCell_toArray (bcells_one _)) ?_)
            have HA2 := Lib.hid (setRow_heap wn w.heap.size _ (bcells X2).toArray _ _ HA1.out)
            have BW2 := Lib.hid (below_setRow (cs := (bcells X2).toArray) BW1.out (Nat.le_refl _))
            have hsz2 : w.heap.size + 1 ≤ (wn.setRow w.heap.size (bcells X2).toArray).heap.size := by rw [setRow_size]; exact hsz1
            go_roundw
            case rel => exact ⟨k + 1, by go_num, by omega, EN.out, by rw [EP.out], by rw [EL.out], by rw [HEM.out]; rfl, BW2.out, hsz2, X2, HA2.out, HX2.out, HBV2.out⟩
            case measure => (simp [intOf] <;> omega)
          · cases zr
            ·
              go_wp2_with fail
              refine (HNO.out _).mono ?_
              rintro en w' ⟨rfl, rfl⟩
              go_wp2_with fail
              refine (HIN.out _).mono ?_
              rintro en w' ⟨rfl, rfl⟩
              go_wp2_with fail
              skip
              refine (HPA.out _).mono ?_
              rintro en w' ⟨rfl, rfl⟩
              go_wp2_with (with_reducible refine wpList_load_row rfl 88 _ rfl w.heap.size rfl 88 (bcells X).toArray (0, 0) _ HA.out Try.underlying88 rfl (info280' _) ?_)
              refine (HPL.out _).mono ?_
              rintro en wn ⟨rfl, hbn⟩
              have zz := BW.out.size
              have HA1 := Lib.hid ((hbn.block w.heap.size (by omega)).trans HA.out)
              have BW1 := Lib.hid (BW.out.trans (hbn.mono zz))
              have hsz1 : w.heap.size + 1 ≤ wn.heap.size := Nat.le_trans hsz hbn.size
              clear hbn HPL
              go_wp2_with (with_reducible refine wpList_store_row rfl 88 _ _ rfl w.heap.size (bcells X2).toArray rfl rfl 88 (bcells X).toArray HA1.out (info280' _) (by simp [bcells]) (all_oneCell_toArray (bcells_one _)) ?_)
              have HA2 := Lib.hid (setRow_heap wn w.heap.size _ (bcells X2).toArray _ _ HA1.out)
              have BW2 := Lib.hid (below_setRow (cs := (bcells X2).toArray) BW1.out (Nat.le_refl _))
              have hsz2 : w.heap.size + 1 ≤ (wn.setRow w.heap.size (bcells X2).toArray).heap.size := by rw [setRow_size]; exact hsz1
              go_roundw
              case rel => exact ⟨k + 1, by go_num, by omega, EN.out, by rw [EP.out], by rw [EL.out], by rw [HEM.out]; rfl, BW2.out, hsz2, X2, HA2.out, HX2.out, HBV2.out⟩
              case measure => (simp [intOf] <;> omega)
            ·
              go_wp2_with fail
              refine (HNO.out _).mono ?_
              rintro en w' ⟨rfl, rfl⟩
              go_wp2_with fail
              refine (HIN.out _).mono ?_
              rintro en w' ⟨rfl, rfl⟩
              go_wp2_with fail
              (refine (HNG.out _).mono ?_; rintro en w' ⟨rfl, rfl⟩; go_wp2_with fail)
              refine (HPA.out _).mono ?_
              rintro en w' ⟨rfl, rfl⟩
              go_wp2_with (with_reducible refine wpList_load_row rfl 88 _ rfl w.heap.size rfl 88 (bcells X).toArray (0, 0) _ HA.out Try.underlying88 rfl (info280' _) ?_)
              refine (HPL.out _).mono ?_
              rintro en wn ⟨rfl, hbn⟩
              have zz := BW.out.size
              have HA1 := Lib.hid ((hbn.block w.heap.size (by omega)).trans HA.out)
              have BW1 := Lib.hid (BW.out.trans (hbn.mono zz))
              have hsz1 : w.heap.size + 1 ≤ wn.heap.size := Nat.le_trans hsz hbn.size
              clear hbn HPL
              go_wp2_with (with_reducible refine wpList_store_row rfl 88 _ _ rfl w.heap.size (bcells X2).toArray rfl rfl 88 (bcells X).toArray HA1.out (info280' _) (by simp [bcells]) (all_oneCell_toArray (bcells_one _)) ?_)
              have HA2 := Lib.hid (setRow_heap wn w.heap.size _ (bcells X2).toArray _ _ HA1.out)
              have BW2 := Lib.hid (below_setRow (cs := (bcells X2).toArray) BW1.out (Nat.le_refl _))
              have hsz2 : w.heap.size + 1 ≤ (wn.setRow w.heap.size (bcells X2).toArray).heap.size := by rw [setRow_size]; exact hsz1
              go_roundw
              case rel => exact ⟨k + 1, by go_num, by omega, EN.out, by rw [EP.out], by rw [EL.out], by rw [HEM.out]; rfl, BW2.out, hsz2, X2, HA2.out, HX2.out, HBV2.out⟩
              case measure => (simp [intOf] <;> omega)
        · rw [hix] at eP eL eM hfd hin
          rw [show finF x = false from by rw [hfd]; rfl, if_neg Bool.false_ne_true, Int.add_zero] at eU
          have hgt := inf_gt hb hix
          have hlt := (inf_sign hb hix).1
          rw [Bool.not_false, Bool.true_and, Bool.true_and] at eP eL
          have eM2 : (a0 && !exM f (k + 1)) = false := by rw [eM]; simp
          have EP := Lib.hid eP; have EL := Lib.hid eL; have EN := Lib.hid eN; have EM := Lib.hid eM2
          have HNO := Lib.hid hno; have HIN := Lib.hid hin
          have hbd : ∀ i, i < 280 → -(65535 * ((k + 1 : Nat) : Int)) ≤ X i ∧ X i ≤ 65535 * ((k + 1 : Nat) : Int) := fun i hi => by
            have := HX.out i hi
            omega
          have HX2 := Lib.hid hbd
          have HBV2 : Hid (bv X 280 = exSum f (k + 1) * ((2 ^ K11 : Nat) : Int)) := Lib.hid (by rw [eU]; exact HBV.out)
          generalize negB x = ng at *
          obtain ⟨al, hal⟩ : ∃ b, b = (a0 && !exM f k) := ⟨_, rfl⟩
          obtain ⟨p, hp⟩ : ∃ b, b = exP f k := ⟨_, rfl⟩
          obtain ⟨l, hl⟩ : ∃ b, b = exL f k := ⟨_, rfl⟩
          rw [← hal, ← hp, ← hl]
          rw [← hp] at EP
          rw [← hl] at EL
          clear hbd eP eL eN eM eM2 eU hno hin hfd hnx hix hmono hal hp hl
          cases p
          · cases l
            ·
              go_wp2_with fail
              refine (HNO.out _).mono ?_
              rintro en w' ⟨rfl, rfl⟩
              go_wp2_with fail
              refine (HIN.out _).mono ?_
              rintro en w' ⟨rfl, rfl⟩
              go_wp2_with fail
              go_roundw
              case rel => exact ⟨k + 1, by go_num, by omega, EN.out, by rw [EP.out] <;> first | rfl | simp, by rw [EL.out] <;> first | rfl | simp, by rw [EM.out] <;> first | rfl | simp, BW.out, hsz, X, HA.out, HX2.out, HBV2.out⟩
              case measure => (simp [intOf] <;> omega)
            ·
              go_wp2_with fail
              refine (HNO.out _).mono ?_
              rintro en w' ⟨rfl, rfl⟩
              go_wp2_with fail
              refine (HIN.out _).mono ?_
              rintro en w' ⟨rfl, rfl⟩
              go_wp2_with fail
              go_roundw
              case rel => exact ⟨k + 1, by go_num, by omega, EN.out, by rw [EP.out] <;> first | rfl | simp, by rw [EL.out] <;> first | rfl | simp, by rw [EM.out] <;> first | rfl | simp, BW.out, hsz, X, HA.out, HX2.out, HBV2.out⟩
              case measure => (simp [intOf] <;> omega)
          · cases l
            ·
              go_wp2_with fail
              refine (HNO.out _).mono ?_
              rintro en w' ⟨rfl, rfl⟩
              go_wp2_with fail
              refine (HIN.out _).mono ?_
              rintro en w' ⟨rfl, rfl⟩
              go_wp2_with fail
              go_roundw
              case rel => exact ⟨k + 1, by go_num, by omega, EN.out, by rw [EP.out] <;> first | rfl | simp, by rw [EL.out] <;> first | rfl | simp, by rw [EM.out] <;> first | rfl | simp, BW.out, hsz, X, HA.out, HX2.out, HBV2.out⟩
              case measure => (simp [intOf] <;> omega)
            ·
              go_wp2_with fail
              refine (HNO.out _).mono ?_
              rintro en w' ⟨rfl, rfl⟩
              go_wp2_with fail
              refine (HIN.out _).mono ?_
              rintro en w' ⟨rfl, rfl⟩
              go_wp2_with fail
              go_roundw
              case rel => exact ⟨k + 1, by go_num, by omega, EN.out, by rw [EP.out] <;> first | rfl | simp, by rw [EL.out] <;> first | rfl | simp, by rw [EM.out] <;> first | rfl | simp, BW.out, hsz, X, HA.out, HX2.out, HBV2.out⟩
              case measure => (simp [intOf] <;> omega)
      · rw [hnx] at hno
        have HNO := Lib.hid hno
        have hne : exN f n = true := hmono.out (by rw [eN, hnx])
        have HRV : Hid (9218868437227405313 = rexV f n) := Lib.hid (by unfold rexV; rw [hne]; rfl)
        clear hno hin eP eL eN eM eU hfd hmono hne hnx
        go_wp2_with fail
        refine (HNO.out _).mono ?_
        rintro en w' ⟨rfl, rfl⟩
        go_wp2_with fail
        refine (HNONE.out _).mono ?_
        rintro en w' ⟨rfl, rfl⟩
        go_wp2_with fail
        go_ret
        exact ⟨congrArg (fun x => Ending.returned (Value.float .f64 x)) HRV.out, BW.out⟩
    · obtain rfl : k = n := by omega
      have hrv : rexV f k = if exN f k || (exP f k && exL f k) then 9218868437227405313 else exV (exN f k) (exP f k) (exL f k) (exS f k) (exM f k) (exSum f k) 1074 := rfl
      rw [HNK.out, Bool.false_or, exS_all k HNK.out, ← HA00.out] at hrv
      unfold exV at hrv
      rw [Bool.false_or] at hrv
      have hout := fun w => out_any X (a0 && !exM f k) (65535 * (k : Int)) w (by omega) HX.out (by rw [HBV.out]; exact small_out hn HF.out)
      rw [HBV.out, out_exact] at hout
      obtain ⟨ov, hov⟩ : ∃ v, v = if exSum f k = 0 then (if a0 && !exM f k then 9223372036854775808 else 0) else fvN (exSum f k) 1074 := ⟨_, rfl⟩
      rw [← hov] at hout hrv
      obtain ⟨al, hal⟩ : ∃ b, b = (a0 && !exM f k) := ⟨_, rfl⟩
      rw [← hal] at hout ⊢
      have HOUT := Lib.hid hout
      have hsz0 : w.heap.size ≤ wr.heap.size := by omega
      clear hov hal hout
      cases hp : exP f k
      · rw [hp, Bool.false_and, if_neg Bool.false_ne_true, if_neg Bool.false_ne_true] at hrv
        cases hl : exL f k
        · rw [hl, if_neg Bool.false_ne_true] at hrv
          have HRV := Lib.hid hrv.symm
          clear hrv hp hl
          go_wp2_with (with_reducible refine wpList_load_row rfl 88 _ rfl w.heap.size rfl 88 (bcells X).toArray (0, 0) _ HA.out Try.underlying88 rfl (info280' _) ?_)
          refine (HOUT.out _).mono ?_
          rintro en wn ⟨rfl, hbn⟩
          have BW1 := Lib.hid (BW.out.trans (hbn.mono hsz0))
          clear hbn
          go_wp2_with fail
          go_ret
          exact ⟨congrArg (fun x => Ending.returned (Value.float .f64 x)) HRV.out, BW1.out⟩
        · rw [hl, if_pos rfl] at hrv
          have HRV := Lib.hid hrv.symm
          clear hrv hp hl
          go_wp2_with fail
          go_ret
          exact ⟨congrArg (fun x => Ending.returned (Value.float .f64 x)) HRV.out, BW.out⟩
      · cases hl : exL f k
        · rw [hp, hl, Bool.and_false, if_neg Bool.false_ne_true, if_neg Bool.false_ne_true, if_pos rfl] at hrv
          have HRV := Lib.hid hrv.symm
          clear hrv hp hl
          go_wp2_with fail
          go_ret
          exact ⟨congrArg (fun x => Ending.returned (Value.float .f64 x)) HRV.out, BW.out⟩
        · rw [hp, hl, Bool.and_true, if_pos rfl] at hrv
          have HRV := Lib.hid hrv.symm
          clear hrv hp hl
          go_wp2_with fail
          refine (HNONE.out _).mono ?_
          rintro en w' ⟨rfl, rfl⟩
          go_wp2_with fail
          go_ret
          exact ⟨congrArg (fun x => Ending.returned (Value.float .f64 x)) HRV.out, BW.out⟩
end Go.Proofs.Ytjakjnmfndfehaa
