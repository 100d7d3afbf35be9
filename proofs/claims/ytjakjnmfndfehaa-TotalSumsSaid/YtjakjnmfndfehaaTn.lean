/- The exact sum of numbers, rounded once: what it is, plain; and total.Exact's walk. Condition: at most 65536 numbers. -/
import Derived.Test.YtjakjnmfndfehaaTm
namespace Go.Pst
open Go Ieee Go.Proofs.Ytjakjnmfndfehaa
set_option linter.unusedVariables false
set_option linter.unusedSimpArgs false
section
variable (f : Nat → Nat)
def finF (b : Nat) : Bool := !nan64 b && !infB b
def exN : Nat → Bool
  | 0 => false
  | k + 1 => exN k || nan64 (f k)
def exP : Nat → Bool
  | 0 => false
  | k + 1 => exP k || (!nan64 (f k) && infB (f k) && !negB (f k))
def exL : Nat → Bool
  | 0 => false
  | k + 1 => exL k || (!nan64 (f k) && infB (f k) && negB (f k))
def exS : Nat → Bool
  | 0 => false
  | k + 1 => exS k || !nan64 (f k)
def exM : Nat → Bool
  | 0 => false
  | k + 1 => exM k || (!nan64 (f k) && (infB (f k) || decide (magN (f k) ≠ 0) || !negB (f k)))
def exSum : Nat → Int
  | 0 => 0
  | k + 1 => exSum k + (if finF (f k) then valZ (f k) else 0)
/-- The exact sum of the first n numbers, rounded once. -/
def exactV (n : Nat) : Nat := exV (exN f n) (exP f n) (exL f n) (exS f n) (exM f n) (exSum f n) 1074
end
def K21 : Nat := 2098
theorem mag_lt {b : Nat} (h : finB b) : magN b < 2 ^ K21 := by
  unfold magN
  have h1 := mant_lt b
  have h2 := place_fin h
  have h3 : mantB b * 2 ^ placeB b < 2 ^ 53 * 2 ^ placeB b := Nat.mul_lt_mul_of_pos_right h1 (Nat.two_pow_pos _)
  rw [← Nat.pow_add] at h3
  exact Nat.lt_of_lt_of_le h3 (Nat.pow_le_pow_right (by omega) (by unfold K21; omega))
theorem finF_iff {b : Nat} (hb : b < 2 ^ 64) : finF b = true ↔ finB b := by
  unfold finF finB; cases nan64 b <;> cases infB b <;> simp [hb]
theorem exSum_bd {f : Nat → Nat} : ∀ k, (∀ j, j < k → f j < 2 ^ 64) → (exSum f k).natAbs ≤ k * 2 ^ K21
  | 0, _ => by simp [exSum]
  | k + 1, h => by
    have h1 := exSum_bd k fun j hj => h j (by omega)
    unfold exSum
    rw [Nat.add_mul, Nat.one_mul]
    split
    · rename_i hf
      have h2 := mag_lt ((finF_iff (h k (by omega))).1 hf)
      rw [mag_abs] at h2
      generalize (2 : Nat) ^ K21 = X at *
      omega
    · generalize (2 : Nat) ^ K21 = X at *
      omega
theorem exSum_small {f : Nat → Nat} {n : Nat} (hn : n ≤ 65536) (h : ∀ j, j < n → f j < 2 ^ 64) : (exSum f n).natAbs < 2 ^ K46 := by
  have h1 := exSum_bd n h
  have h2 : n * 2 ^ K21 ≤ 2 ^ 16 * 2 ^ K21 := Nat.mul_le_mul_right _ (by omega)
  rw [← Nat.pow_add] at h2
  have h3 : 2 ^ (16 + K21) < 2 ^ K46 := Nat.pow_lt_pow_right (by omega) (by decide)
  exact Nat.lt_of_le_of_lt (Nat.le_trans h1 h2) h3
theorem inf_sign {b : Nat} (hb : b < 2 ^ 64) (hi : infB b = true) : flt .f64 b 0 = negB b ∧ nan64 b = false := by
  unfold infB at hi
  simp only [decide_eq_true_eq] at hi
  have hn : nan64 b = false := by unfold nan64; rw [hi]; decide
  refine ⟨?_, hn⟩
  rw [flt64, hn, show nan64 0 = false from rfl, show key64 0 = 0 from rfl]
  unfold key64 negB
  rcases Nat.lt_or_ge b 9223372036854775808 with h | h
  · rw [if_neg (by omega), decide_eq_false (by omega : ¬ 9223372036854775808 ≤ b)]
    simp
    omega
  · rw [if_pos (by omega), decide_eq_true h]
    simp; omega
end Go.Pst
namespace Go.Proofs.Ytjakjnmfndfehaa
open Go.RowKit Go.Pst
set_option maxRecDepth 20000
set_option linter.unusedSimpArgs false
set_option linter.unusedVariables false

/-- A list of numbers in memory. -/
def FlAt (w : World) (B : Nat) (A : Option Addr) (n : Nat) (f : Nat → Nat) : Prop :=
  0 < n → ∃ b off, A = some ⟨b, off, none⟩ ∧ b < B ∧ ∀ i, i < n → w.cell? ⟨b, off + i, none⟩ = some (.float .f64 (f i))
theorem FlAt.below {w w' : World} {B B' : Nat} {A : Option Addr} {n : Nat} {f : Nat → Nat} (h : FlAt w B A n f) (hb : Below B' w w') (hB : B ≤ B') : FlAt w' B A n f := fun hn => by
  obtain ⟨b, off, h1, h2, h3⟩ := h hn
  exact ⟨b, off, h1, h2, fun i hi => by rw [hb.cell (show b < B' by omega)]; exact h3 i hi⟩
theorem FlAt.more {w : World} {B B' : Nat} {A : Option Addr} {n : Nat} {f : Nat → Nat} (h : FlAt w B A n f) (hB : B ≤ B') : FlAt w B' A n f := fun hn => by
  obtain ⟨b, off, h1, h2, h3⟩ := h hn
  exact ⟨b, off, h1, by omega, h3⟩

theorem ex_new (w : World) (d : Int) (cs : Array Value) (hw : ∀ i, i < 72 → cs[i]? = some (.int .u64 0)) (h2 : cs[72]? = some (.int .i64 d)) (h3 : cs[73]? = some (.bool false)) (h4 : cs[74]? = some (.bool false)) (h5 : cs[75]? = some (.bool false))
    (h6 : cs[76]? = some (.bool false)) (h7 : cs[77]? = some (.bool false)) : ExAt (w.alloc (.cells cs 84)) w.heap.size (fun _ => 0) d false false false false false := by
  have hh := heap_alloc_new w (.cells cs 84)
  refine ⟨⟨by simp, fun k => frozen_of_row _ _ _ _ _ hh, fun i hi => ?_⟩, ?_, ?_, ?_, ?_, ?_, ?_⟩
  · rw [cell_of_row _ _ _ _ _ _ hh, Nat.zero_add]; exact hw i hi
  all_goals (rw [cell_of_row _ _ _ _ _ _ hh]; assumption)
theorem zero84 : Try.zeroCells84 = ((wcells fun _ => 0) ++ ([.int .i64 0, .bool false, .bool false, .bool false, .bool false, .bool false] : List Value)).toArray := by kernel_rfl
theorem ex_made (w : World) (d : Int) : ExAt (w.alloc (.cells (Try.zeroCells84.setIfInBounds 72 (.int .i64 d)) 84)) w.heap.size (fun _ => 0) d false false false false false := by
  have hl := wcells_len (fun _ => 0)
  refine ex_new w d _ (fun i hi => ?_) ?_ ?_ ?_ ?_ ?_ ?_
  all_goals rw [zero84, List.setIfInBounds_toArray, List.getElem?_toArray, List.getElem?_set]
  · rw [if_neg (by omega), List.getElem?_append_left (by omega)]; exact wcells_get _ hi
  · rw [if_pos rfl, if_pos (by simp [hl])]
  all_goals (rw [if_neg (by omega), List.getElem?_append_right (by omega), hl]; rfl)
theorem wis_zero : WIs (fun _ => 0) 0 := ⟨fun i _ => w64_pos, by rw [wv_zero 72 (fun _ _ => rfl)]; unfold toW; simp⟩

set_option maxHeartbeats 4000000 in
theorem exact_any (n c : Nat) (A : Option Addr) (f : Nat → Nat) (w : World) (hA : FlAt w w.heap.size A n f) (hn : n ≤ 65536) (hf : ∀ j, j < n → f j < 2 ^ 64) :
    Calls Try.prog 26 #[.slice A n c] w fun en w' => en = .returned (.tuple #[.float .f64 (exactV f n), .int .i64 0]) ∧ Below w.heap.size w w' := by
  have HLG := Lib.hid fun w => long_f n c A w (by omega)
  rw [decide_eq_false (by omega : ¬ 65536 < n)] at HLG
  have HA := Lib.hid hA; have HF := Lib.hid hf
  have HSM := Lib.hid (exSum_small hn hf)
  clear hA hf
  go_enter Try.func26, Try.ntmps26
  go_wp2_with fail
  refine (HLG.out _).mono ?_
  rintro en w' ⟨rfl, rfl⟩
  go_wp2_with fail
  go_loopw [13] (fun t wr => ∃ k : Nat, t = .int .i64 k ∧ k ≤ n ∧ Below w.heap.size w wr ∧ ∃ V, ExAt wr w.heap.size V 1074 (exP f k) (exL f k) (exN f k) (exS f k) (exM f k) ∧ WIs V (exSum f k)) (fun t _ => n - (intOf t).toNat)
  case atStart => exact ⟨0, rfl, by omega, (Below.refl _ _).alloc (Nat.le_refl _) _, _, ex_made w 1074, wis_zero⟩
  case round =>
    obtain ⟨k, rfl, hk, hbw, V, hE, hV⟩ := hrel
    have BW := Lib.hid hbw; have HE := Lib.hid hE; have HV := Lib.hid hV
    clear hbw hE hV
    by_cases hkn : k < n
    · have h3 : (k : Int) < (n : Int) := by omega
      obtain ⟨a, o, rfl, ha, hc⟩ := (HA.out.below BW.out (Nat.le_refl _)) (by omega)
      have q := hc k hkn
      have hb := HF.out k hkn
      have zE := HE.out.wide.lt
      have eP : exP f (k + 1) = (exP f k || (!nan64 (f k) && infB (f k) && !negB (f k))) := rfl
      have eL : exL f (k + 1) = (exL f k || (!nan64 (f k) && infB (f k) && negB (f k))) := rfl
      have eN : exN f (k + 1) = (exN f k || nan64 (f k)) := rfl
      have eS : exS f (k + 1) = (exS f k || !nan64 (f k)) := rfl
      have eM : exM f (k + 1) = (exM f k || (!nan64 (f k) && (infB (f k) || decide (magN (f k) ≠ 0) || !negB (f k)))) := rfl
      have eU : exSum f (k + 1) = exSum f k + (if finF (f k) then valZ (f k) else 0) := rfl
      have hne := fne_self (f k)
      have hFI := Lib.hid (finF_iff hb)
      have hIS := Lib.hid fun h => inf_sign hb h
      have hMI := Lib.hid fun w => minf_any (f k) w hb
      have hfd : finF (f k) = (!nan64 (f k) && !infB (f k)) := rfl
      clear hc
      obtain ⟨x, hx⟩ : ∃ x, x = f k := ⟨_, rfl⟩
      rw [← hx] at q hb eP eL eN eS eM eU hne hFI hIS hMI hfd
      clear hx
      cases hnx : nan64 x
      · rw [hnx] at eP eL eN eS eM hne hfd
        cases hix : infB x
        · rw [hix] at eP eL eM hMI hfd
          have hfin : finB x := hFI.out.1 (by rw [hfd]; rfl)
          rw [show finF x = true from by rw [hfd]; rfl, if_pos rfl] at eU
          have EP := Lib.hid eP; have EL := Lib.hid eL; have EN := Lib.hid eN; have ES := Lib.hid eS; have EM := Lib.hid eM; have EU := Lib.hid eU
          have hal := (Below.refl wr.heap.size wr).alloc (Nat.le_refl _) (.cells #[.float .f64 x] 24)
          have HT := Lib.hid (term_any w.heap.size 1 1 wr.heap.size 0 V (fun _ => x) 1074 _ _ _ _ _ (wr.alloc (.cells #[.float .f64 x] 24)) (HE.out.below hal) (.inl rfl) (by simp)
            (fun j hj => by rw [show j = 0 by omega]; rw [cell_of_row _ _ _ _ _ _ (heap_alloc_new _ _)]; rfl) (fun _ _ => hfin) (by omega) _ HV.out)
          have hval : valZ x = sgn (xSum (fun _ => x) 1) (pwZ (sz (fun _ => x) 0 1 * sz (fun _ => x) 1 1) (eSum (fun _ => x) 1074 1)) := by
            show valZ x = sgn (false != negB x) (pwZ (frM x * 1) (1074 + (frE x - 53)))
            rw [Nat.mul_one, frM_one hfin, valZ_mag]
            cases negB x <;> rfl
          have hmag : pwZ (sz (fun _ => x) 0 1 * sz (fun _ => x) 1 1) (eSum (fun _ => x) 1074 1) = magN x := by
            show pwZ (frM x * 1) (1074 + (frE x - 53)) = magN x
            rw [Nat.mul_one, frM_one hfin]
          have hbl : xSum (fun _ => x) 1 = negB x := by show (false != negB x) = negB x; cases negB x <;> rfl
          rw [hmag, hbl] at HT hval
          have HVAL := Lib.hid hval
          have hBA := Lib.hid (BW.out.trans (hal.mono BW.out.size))
          have hsz : w.heap.size ≤ wr.heap.size := BW.out.size
          clear eP eL eN eS eM eU hal hval hmag hbl hfd hix hnx
          go_wp2_with fail
          refine (hMI.out _).mono ?_
          rintro en w' ⟨rfl, rfl⟩
          go_wp2_with fail
          refine HT.out.mono ?_
          rintro en w2 hT
          obtain ⟨⟨v2, rfl⟩, hF2, V2, hE2, hV2⟩ := hT
          have E2 := Lib.hid hE2; have V2' := Lib.hid hV2
          have B2 := Lib.hid (Fr.below hBA.out hF2 (Nat.le_refl _) (by simp; omega))
          clear hF2 hE2 hV2 HT
          go_wp2_with fail
          go_roundw
          case rel =>
            refine ⟨k + 1, by go_num, by omega, B2.out, V2, ?_, ?_⟩
            · have e2 := E2.out
              rw [EP.out, EL.out, EN.out, ES.out, EM.out]
              simpa [Bool.or_assoc] using e2
            · rw [EU.out, HVAL.out]; exact V2'.out
          case measure => (simp [intOf] <;> omega)
        · obtain ⟨hfl, -⟩ := hIS.out hix
          rw [hix] at eP eL eM hMI hfd
          rw [show finF x = false from by rw [hfd]; rfl, if_neg Bool.false_ne_true, Int.add_zero] at eU
          have EP := Lib.hid eP; have EL := Lib.hid eL; have EN := Lib.hid eN; have ES := Lib.hid eS; have EM := Lib.hid eM; have EU := Lib.hid eU
          have HT := Lib.hid (infinite_any w.heap.size V 1074 _ _ _ _ _ (negB x) wr HE.out)
          clear eP eL eN eS eM eU hfd hix hnx
          go_wp2_with fail
          refine (hMI.out _).mono ?_
          rintro en w' ⟨rfl, rfl⟩
          go_wp2_with fail
          refine HT.out.mono ?_
          rintro en w2 hT
          obtain ⟨⟨v2, rfl⟩, hF2, hE2⟩ := hT
          have E2 := Lib.hid hE2
          have B2 := Lib.hid (Fr.below BW.out hF2 (Nat.le_refl _) BW.out.size)
          clear hF2 hE2 HT
          go_wp2_with fail
          go_roundw
          case rel =>
            refine ⟨k + 1, by go_num, by omega, B2.out, V, ?_, ?_⟩
            · have e2 := E2.out
              rw [EP.out, EL.out, EN.out, ES.out, EM.out]
              simpa using e2
            · rw [EU.out]; exact HV.out
          case measure => (simp [intOf] <;> omega)
      · rw [hnx] at eP eL eN eS eM hne hfd
        rw [show finF x = false from by rw [hfd]; rfl, if_neg Bool.false_ne_true, Int.add_zero] at eU
        have EP := Lib.hid eP; have EL := Lib.hid eL; have EN := Lib.hid eN; have ES := Lib.hid eS; have EM := Lib.hid eM; have EU := Lib.hid eU
        have c5 := HE.out.cn
        have f5 := HE.out.wide.fr 75
        have E2 := Lib.hid (HE.out.setN (b := true))
        have B2 := Lib.hid (BW.out.setCell (p := ⟨w.heap.size, 75, none⟩) (Nat.le_refl _) (.bool true))
        clear eP eL eN eS eM eU hfd hnx
        go_wp2_with fail
        go_roundw
        case rel =>
          refine ⟨k + 1, by go_num, by omega, B2.out, V, ?_, ?_⟩
          · have e2 := E2.out
            rw [EP.out, EL.out, EN.out, ES.out, EM.out]
            simpa using e2
          · rw [EU.out]; exact HV.out
        case measure => (simp [intOf] <;> omega)
    · obtain rfl : k = n := by omega
      have HT := Lib.hid (total_any w.heap.size V 1074 _ _ _ _ _ _ wr HE.out HV.out HSM.out (by omega))
      go_wp2_with fail
      refine HT.out.mono ?_
      rintro en w2 ⟨rfl, hb2⟩
      have B2 := Lib.hid (BW.out.trans (hb2.mono BW.out.size))
      clear hb2 HT
      go_wp2_with fail
      go_ret2
      exact ⟨rfl, B2.out⟩
end Go.Proofs.Ytjakjnmfndfehaa
