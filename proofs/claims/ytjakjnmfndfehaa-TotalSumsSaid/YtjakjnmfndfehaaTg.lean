/- The product of two numbers of 64 bits times a power of two, as 72 words: the program's walk. Conditions: the power lies from -104 to 4200. -/
import Derived.Test.YtjakjnmfndfehaaTf
namespace Go.Proofs.Ytjakjnmfndfehaa
open Go.RowKit Go.Pst
set_option maxRecDepth 20000
set_option linter.unusedSimpArgs false
set_option linter.unusedVariables false

theorem info72 : (Try.prog.info? 82).map (·.size) = some (wcells fun _ => 0).toArray.size := by kernel_rfl
theorem info72' (V : Nat → Nat) : (Try.prog.info? 82).map (·.size) = some (wcells V).toArray.size := by
  rw [info72]; simp [wcells]

theorem below_setRow {w w' : World} {B g : Nat} {cs : Array Value} (h : Below B w w') (hg : B ≤ g) : Below B w (w'.setRow g cs) :=
  ⟨h.os, h.tape, h.output, by rw [setRow_size]; exact h.size, fun k hk => by rw [setRow_other w' g k cs (by omega)]; exact h.block k hk⟩

def ProdPost (N : Nat) (w : World) (en : Ending) (w' : World) : Prop := en = .returned (.agg (wcells (natW N)).toArray) ∧ Below w.heap.size w w'

set_option maxHeartbeats 1000000 in
theorem product_low (a b n lo hi : Nat) (w : World) (hm : ∀ w, Calls Try.prog 122 #[.int .u64 a, .int .u64 b] w fun e w' => e = .returned (.tuple #[.int .u64 hi, .int .u64 lo]) ∧ w = w')
    (hlo : lo < W64) (hhi : hi < W64) (hn1 : 0 < n) (hn2 : n < 64) :
    Calls Try.prog 107 #[.int .u64 a, .int .u64 b, .int .i64 (-(n : Int))] w (ProdPost ((lo + hi * W64) / 2 ^ n) w) := by
  have HM := Lib.hid hm
  clear hm
  obtain ⟨d1, d2⟩ := down_words hlo hhi hn1 hn2
  have hNlt : (lo + hi * W64) / 2 ^ n < W64 * W64 := Nat.lt_of_le_of_lt (Nat.div_le_self _ _) (by
    have := Nat.mul_le_mul_right W64 (show hi + 1 ≤ W64 by omega)
    rw [Nat.add_mul, Nat.one_mul] at this
    omega)
  have h1 : lo < 18446744073709551616 := hlo
  have h2 : -(n : Int) < 0 := by omega
  have h3 : (0 : Int) ≤ (n : Int) := by omega
  have hor : bits .or .u64 ((lo : Int) / 2 ^ n) (IntKind.u64.wrap ((hi : Int) * 2 ^ (64 - n))) = (((lo + hi * W64) / 2 ^ n % W64 : Nat) : Int) := by
    rw [← d1]
    have e1 : ((lo : Int) / 2 ^ n) = ((lo / 2 ^ n : Nat) : Int) := by rw [Int.natCast_ediv, Int.natCast_pow]; rfl
    have e2 : IntKind.u64.wrap ((hi : Int) * 2 ^ (64 - n)) = ((hi * 2 ^ (64 - n) % W64 : Nat) : Int) := by
      rw [show ((hi : Int) * 2 ^ (64 - n)) = ((hi * 2 ^ (64 - n) : Nat) : Int) by rw [Int.natCast_mul, Int.natCast_pow]; rfl]
      exact wrapM _
    rw [e1, e2]
    exact or64 (Nat.lt_of_le_of_lt (Nat.div_le_self _ _) hlo) (Nat.mod_lt _ w64_pos)
  have hdv : ((hi : Int) / 2 ^ n) = (((lo + hi * W64) / 2 ^ n / W64 : Nat) : Int) := by
    rw [← d2, Int.natCast_ediv, Int.natCast_pow]; rfl
  have HN := Lib.hid (natW_two hNlt)
  obtain ⟨N, hN⟩ : ∃ N, N = (lo + hi * W64) / 2 ^ n := ⟨_, rfl⟩
  rw [← hN] at hor hdv HN ⊢
  obtain ⟨x0, hx0⟩ : ∃ x, x = N % W64 := ⟨_, rfl⟩
  obtain ⟨x1, hx1⟩ : ∃ x, x = N / W64 := ⟨_, rfl⟩
  rw [← hx0] at hor
  rw [← hx1] at hdv
  have HX0 := Lib.hid hx0; have HX1 := Lib.hid hx1
  clear d1 d2 hNlt hN hx0 hx1
  go_enter Try.func107, Try.ntmps107
  go_wp2_with fail
  refine (HM.out _).mono ?_
  rintro en w' ⟨rfl, rfl⟩
  go_wp2_with (first
    | (with_reducible refine wpList_load_row rfl 82 _ rfl (w.heap.size + 1) rfl 82 (wcells (upd (upd (fun _ => 0) 0 x0) 1 x1)).toArray (0, 0) _ (by rw [← wcells_set, ← wcells_set, ← wcells_zero]; exact heap_alloc2_new w _ _) Try.underlying82 rfl (info72' _) ?_)
    | (with_reducible refine wpList_store_row rfl 82 _ _ rfl w.heap.size (wcells (upd (upd (fun _ => 0) 0 x0) 1 x1)).toArray rfl rfl 82 (wcells fun _ => 0).toArray (by rw [← wcells_zero]; exact heap_alloc2_old w _ _) (info72' _) (by simp [wcells]) (all_oneCell_toArray (wcells_one _)) ?_))
  refine bodyPost_ret (results_cell_row Try.results107 _ _ w.heap.size 82 (wcells (upd (upd (fun _ => 0) 0 x0) 1 x1)).toArray (0, 0) _ rfl
    (setRow_heap _ _ (wcells fun _ => 0).toArray _ _ _ (by rw [← wcells_zero]; exact heap_alloc2_old w _ _)) Try.underlying82 rfl (info72' _)) rfl ⟨?_, ?_⟩
  · rw [wcells_congr (U := natW N) (fun i hi => by
      rw [HN.out i, ← HX0.out, ← HX1.out]
      unfold upd
      by_cases h0 : i = 0
      · rw [if_neg (by omega), if_pos h0, if_pos h0]
      · by_cases h1 : i = 1
        · rw [if_pos h1, if_neg h0, if_pos h1]
        · rw [if_neg h1, if_neg h0, if_neg h0, if_neg h1])]
  · exact below_setRow (((Below.refl _ _).alloc (Nat.le_refl _) _).alloc (by simp) _) (Nat.le_refl _)

theorem set4 (A : Array Value) (x y n z : Value) : (((A.setIfInBounds 0 x).setIfInBounds 1 y).setIfInBounds 0 n).setIfInBounds 1 z = (A.setIfInBounds 0 n).setIfInBounds 1 z := by
  apply Array.ext_getElem?
  intro i
  simp only [Array.getElem?_setIfInBounds, Array.size_setIfInBounds]
  by_cases h : 1 = i
  · simp [h]
  · by_cases h' : 0 = i
    · simp [h, h']
    · simp [h, h']

set_option maxHeartbeats 1000000 in
theorem product_low2 (a b n lo hi : Nat) (w : World) (hm : ∀ w, Calls Try.prog 122 #[.int .u64 a, .int .u64 b] w fun e w' => e = .returned (.tuple #[.int .u64 hi, .int .u64 lo]) ∧ w = w')
    (hlo : lo < W64) (hhi : hi < W64) (hn1 : 64 ≤ n) (hn2 : n < 128) :
    Calls Try.prog 107 #[.int .u64 a, .int .u64 b, .int .i64 (-(n : Int))] w (ProdPost ((lo + hi * W64) / 2 ^ n) w) := by
  have HM := Lib.hid hm
  clear hm
  have d1 := down_words2 hlo hhi hn1
  have hNlt : (lo + hi * W64) / 2 ^ n < W64 := by rw [← d1]; exact Nat.lt_of_le_of_lt (Nat.div_le_self _ _) hhi
  have h2 : -(n : Int) < 0 := by omega
  have h3 : (0 : Int) ≤ (n : Int) := by omega
  have hdv : ((hi : Int) / 2 ^ (n - 64)) = (((lo + hi * W64) / 2 ^ n : Nat) : Int) := by
    rw [← d1, Int.natCast_ediv, Int.natCast_pow]; rfl
  have HN := Lib.hid (natW_two (Nat.lt_of_lt_of_le hNlt (Nat.le_mul_of_pos_right _ w64_pos)))
  have HNL := Lib.hid hNlt
  obtain ⟨N, hN⟩ : ∃ N, N = (lo + hi * W64) / 2 ^ n := ⟨_, rfl⟩
  rw [← hN] at hdv HN HNL ⊢
  clear d1 hN hNlt
  go_enter Try.func107, Try.ntmps107
  go_wp2_with fail
  refine (HM.out _).mono ?_
  rintro en w' ⟨rfl, rfl⟩
  go_wp2_with (first
    | (with_reducible refine wpList_load_row rfl 82 _ rfl (w.heap.size + 1) rfl 82 (wcells (upd (upd (fun _ => 0) 0 N) 1 0)).toArray (0, 0) _ (by rw [heap_alloc2_new, set4, wcells_zero, wcells_set]; exact congrArg (fun c => some (Obj.cells c 82 (0, 0))) (wcells_set _ 1 0)) Try.underlying82 rfl (info72' _) ?_)
    | (with_reducible refine wpList_store_row rfl 82 _ _ rfl w.heap.size (wcells (upd (upd (fun _ => 0) 0 N) 1 0)).toArray rfl rfl 82 (wcells fun _ => 0).toArray (by rw [← wcells_zero]; exact heap_alloc2_old w _ _) (info72' _) (by simp [wcells]) (all_oneCell_toArray (wcells_one _)) ?_))
  refine bodyPost_ret (results_cell_row Try.results107 _ _ w.heap.size 82 (wcells (upd (upd (fun _ => 0) 0 N) 1 0)).toArray (0, 0) _ rfl
    (setRow_heap _ _ (wcells fun _ => 0).toArray _ _ _ (by rw [← wcells_zero]; exact heap_alloc2_old w _ _)) Try.underlying82 rfl (info72' _)) rfl ⟨?_, ?_⟩
  · rw [wcells_congr (U := natW N) (fun i hi => by
      rw [HN.out i, Nat.mod_eq_of_lt HNL.out, Nat.div_eq_of_lt HNL.out]
      unfold upd
      by_cases h0 : i = 0
      · rw [if_neg (by omega), if_pos h0, if_pos h0]
      · by_cases h1 : i = 1
        · rw [if_pos h1, if_neg h0, if_pos h1]
        · rw [if_neg h1, if_neg h0, if_neg h0, if_neg h1])]
  · exact below_setRow (((Below.refl _ _).alloc (Nat.le_refl _) _).alloc (by simp) _) (Nat.le_refl _)

/-- Three words at a place. -/
def plW (P d k i : Nat) : Nat := if d ≤ i ∧ i < d + k then natW P (i - d) else 0


set_option maxHeartbeats 2000000 in
theorem product_high (a b p lo hi : Nat) (w : World) (hm : ∀ w, Calls Try.prog 122 #[.int .u64 a, .int .u64 b] w fun e w' => e = .returned (.tuple #[.int .u64 hi, .int .u64 lo]) ∧ w = w')
    (hlo : lo < W64) (hhi : hi < W64) (hp : p < 65536) :
    Calls Try.prog 107 #[.int .u64 a, .int .u64 b, .int .i64 p] w (ProdPost ((lo + hi * W64) * 2 ^ p) w) := by
  have HM := Lib.hid hm
  clear hm
  obtain ⟨n, hn⟩ : ∃ n, n = p % 64 := ⟨_, rfl⟩
  obtain ⟨d, hd⟩ : ∃ d, d = p / 64 := ⟨_, rfl⟩
  have hn2 : n < 64 := by omega
  have hd2 : d < 1024 := by omega
  have e1 : (p : Int) / 64 = (d : Int) := by omega
  have e2 : (p : Int) % 64 = (n : Int) := by omega
  have eN : (lo + hi * W64) * 2 ^ p = (lo + hi * W64) * 2 ^ n * W64 ^ d := by
    rw [w64_two, Nat.mul_assoc, ← Nat.pow_add, show n + 64 * d = p by omega]
  obtain ⟨u0, u1, u2, u3⟩ := up_words hlo hhi hn2
  have hl0 : IntKind.u64.wrap ((lo : Int) * 2 ^ n) = ((lo * 2 ^ n % W64 : Nat) : Int) := by
    rw [show ((lo : Int) * 2 ^ n) = ((lo * 2 ^ n : Nat) : Int) by rw [Int.natCast_mul, Int.natCast_pow]; rfl]; exact wrapM _
  have hl1 : bits .or .u64 ((lo : Int) / 2 ^ (64 - n)) (IntKind.u64.wrap ((hi : Int) * 2 ^ n)) = ((lo / 2 ^ (64 - n) ||| hi * 2 ^ n % W64 : Nat) : Int) := by
    rw [show ((hi : Int) * 2 ^ n) = ((hi * 2 ^ n : Nat) : Int) by rw [Int.natCast_mul, Int.natCast_pow]; rfl, wrapM, show ((lo : Int) / 2 ^ (64 - n)) = ((lo / 2 ^ (64 - n) : Nat) : Int) by rw [Int.natCast_ediv, Int.natCast_pow]; rfl]
    exact or64 (Nat.lt_of_le_of_lt (Nat.div_le_self _ _) hlo) (Nat.mod_lt _ (by omega))
  have hl2 : (hi : Int) / 2 ^ (64 - n) = ((hi / 2 ^ (64 - n) : Nat) : Int) := by rw [Int.natCast_ediv, Int.natCast_pow]; rfl
  rw [u0] at hl0; rw [u1] at hl1; rw [u2] at hl2
  rw [eN]
  obtain ⟨P, hP⟩ : ∃ P, P = (lo + hi * W64) * 2 ^ n := ⟨_, rfl⟩
  rw [← hP] at hl0 hl1 hl2 u3 ⊢
  obtain ⟨l0, g0⟩ : ∃ l, l = natW P 0 := ⟨_, rfl⟩
  obtain ⟨l1, g1⟩ : ∃ l, l = natW P 1 := ⟨_, rfl⟩
  obtain ⟨l2, g2⟩ : ∃ l, l = natW P 2 := ⟨_, rfl⟩
  rw [← g0] at hl0; rw [← g1] at hl1; rw [← g2] at hl2
  have HL0 := Lib.hid g0; have HL1 := Lib.hid g1; have HL2 := Lib.hid g2
  have HP3 := Lib.hid u3
  clear hn hd eN u0 u1 u2 u3 hP g0 g1 g2
  have h0 : (0 : Int) ≤ (p : Int) := by omega
  have h1 : (0 : Int) ≤ (n : Int) := by omega
  have hd0 : (0 : Int) ≤ (d : Int) := by omega
  go_enter Try.func107, Try.ntmps107
  go_wp2_with fail
  refine (HM.out _).mono ?_
  rintro en w' ⟨rfl, rfl⟩
  go_wp2_with fail
  go_loopw [71] (fun t wr => ∃ k : Nat, t = .int .i64 k ∧ k ≤ 3 ∧ wr.heap[w.heap.size]? = some (.cells (wcells fun _ => 0).toArray 82 (0, 0)) ∧ wr.heap[w.heap.size + 1]? = some (.cells (wcells (plW P d k)).toArray 82 (0, 0)) ∧ Below w.heap.size w wr) (fun t _ => 3 - (intOf t).toNat)
  case atStart =>
    refine ⟨0, rfl, by omega, ?_, ?_, (((Below.refl _ _).alloc (Nat.le_refl _) _).alloc (by simp) _).alloc (by simp; omega) _⟩
    · rw [heap_alloc_old _ _ (by simp; omega), heap_alloc2_old, wcells_zero]
    · rw [heap_alloc_old _ _ (by simp), heap_alloc2_new, wcells_zero, wcells_congr (U := plW P d 0) (fun i hi => by unfold plW; rw [if_neg (by omega)])]
  case round =>
    obtain ⟨k, rfl, hk, ha, hb, hw⟩ := hrel
    have HA := Lib.hid ha; have HB := Lib.hid hb; have BW := Lib.hid hw
    clear ha hb hw
    obtain rfl | rfl | rfl | rfl : k = 0 ∨ k = 1 ∨ k = 2 ∨ k = 3 := by omega
    ·
      have ix : ∀ w, (Instr.index 122 (.agg #[.int .u64 (l0 : Nat), .int .u64 (l1 : Nat), .int .u64 (l2 : Nat)]) (.int .i64 0)).run Try.prog w = .ok (.int .u64 (l0 : Nat)) w := fun _ => by kernel_rfl
      have h3 : (0 : Int) < 3 := by omega
      by_cases hin : d < 72
      · have hin' : (d : Int) < 72 := by omega
        have c := cell_of_row wr (w.heap.size + 1) (d) _ _ _ HB.out
        have f := frozen_of_row wr (w.heap.size + 1) (d) _ _ HB.out
        rw [List.getElem?_toArray, wcells_get _ hin] at c
        have z := BW.out.size
        go_wp2_with fail
        have HB2 : Hid ((wr.setCell ⟨w.heap.size + 1, d, none⟩ (.int .u64 (l0 : Nat))).heap[w.heap.size + 1]? = some (.cells (wcells (plW P d (0 + 1))).toArray 82 (0, 0))) := Lib.hid (by
          rw [heap_setCell_same _ _ _ _ _ _ HB.out, wcells_set]
          rw [wcells_congr (U := plW P d (0 + 1)) (fun i hi => by
            unfold upd plW
            by_cases e : i = d
            · rw [if_pos e, if_pos (by omega), e, show d - d = 0 by omega]; exact HL0.out
            · rw [if_neg e]
              by_cases e2 : d ≤ i ∧ i < d + 0
              · rw [if_pos e2, if_pos (by omega)]
              · rw [if_neg e2, if_neg (by omega)])])
        have HA2 : Hid ((wr.setCell ⟨w.heap.size + 1, d, none⟩ (.int .u64 (l0 : Nat))).heap[w.heap.size]? = some (.cells (wcells fun _ => 0).toArray 82 (0, 0))) := Lib.hid (by
          rw [heap_setCell_other _ _ _ _ (by show w.heap.size ≠ w.heap.size + 1; omega)]; exact HA.out)
        have BW2 := Lib.hid (BW.out.setCell (p := ⟨w.heap.size + 1, d, none⟩) (by show w.heap.size ≤ w.heap.size + 1; omega) (.int .u64 (l0 : Nat)))
        clear c f z
        go_roundw
        case rel => exact ⟨0 + 1, by go_num, by omega, HA2.out, HB2.out, BW2.out⟩
        case measure => (simp [intOf] <;> omega)
      · have hin' : ¬ (d : Int) < 72 := by omega
        have HB2 : Hid (wr.heap[w.heap.size + 1]? = some (.cells (wcells (plW P d (0 + 1))).toArray 82 (0, 0))) := Lib.hid (by
          rw [HB.out, wcells_congr (U := plW P d (0 + 1)) (fun i hi => by
            unfold plW
            by_cases e2 : d ≤ i ∧ i < d + 0
            · rw [if_pos e2, if_pos (by omega)]
            · rw [if_neg e2, if_neg (by omega)])])
        go_wp2_with fail
        go_roundw
        case rel => exact ⟨0 + 1, by go_num, by omega, HA.out, HB2.out, BW.out⟩
        case measure => (simp [intOf] <;> omega)
    ·
      have ix : ∀ w, (Instr.index 122 (.agg #[.int .u64 (l0 : Nat), .int .u64 (l1 : Nat), .int .u64 (l2 : Nat)]) (.int .i64 1)).run Try.prog w = .ok (.int .u64 (l1 : Nat)) w := fun _ => by kernel_rfl
      have h3 : (1 : Int) < 3 := by omega
      by_cases hin : (d + 1) < 72
      · have hin' : (d : Int) + 1 < 72 := by omega
        have c := cell_of_row wr (w.heap.size + 1) ((d + 1)) _ _ _ HB.out
        have f := frozen_of_row wr (w.heap.size + 1) ((d + 1)) _ _ HB.out
        rw [List.getElem?_toArray, wcells_get _ hin] at c
        have z := BW.out.size
        go_wp2_with fail
        have HB2 : Hid ((wr.setCell ⟨w.heap.size + 1, (d + 1), none⟩ (.int .u64 (l1 : Nat))).heap[w.heap.size + 1]? = some (.cells (wcells (plW P d (1 + 1))).toArray 82 (0, 0))) := Lib.hid (by
          rw [heap_setCell_same _ _ _ _ _ _ HB.out, wcells_set]
          rw [wcells_congr (U := plW P d (1 + 1)) (fun i hi => by
            unfold upd plW
            by_cases e : i = (d + 1)
            · rw [if_pos e, if_pos (by omega), e, show (d + 1) - d = 1 by omega]; exact HL1.out
            · rw [if_neg e]
              by_cases e2 : d ≤ i ∧ i < d + 1
              · rw [if_pos e2, if_pos (by omega)]
              · rw [if_neg e2, if_neg (by omega)])])
        have HA2 : Hid ((wr.setCell ⟨w.heap.size + 1, (d + 1), none⟩ (.int .u64 (l1 : Nat))).heap[w.heap.size]? = some (.cells (wcells fun _ => 0).toArray 82 (0, 0))) := Lib.hid (by
          rw [heap_setCell_other _ _ _ _ (by show w.heap.size ≠ w.heap.size + 1; omega)]; exact HA.out)
        have BW2 := Lib.hid (BW.out.setCell (p := ⟨w.heap.size + 1, (d + 1), none⟩) (by show w.heap.size ≤ w.heap.size + 1; omega) (.int .u64 (l1 : Nat)))
        clear c f z
        go_roundw
        case rel => exact ⟨1 + 1, by go_num, by omega, HA2.out, HB2.out, BW2.out⟩
        case measure => (simp [intOf] <;> omega)
      · have hin' : ¬ (d : Int) + 1 < 72 := by omega
        have HB2 : Hid (wr.heap[w.heap.size + 1]? = some (.cells (wcells (plW P d (1 + 1))).toArray 82 (0, 0))) := Lib.hid (by
          rw [HB.out, wcells_congr (U := plW P d (1 + 1)) (fun i hi => by
            unfold plW
            by_cases e2 : d ≤ i ∧ i < d + 1
            · rw [if_pos e2, if_pos (by omega)]
            · rw [if_neg e2, if_neg (by omega)])])
        go_wp2_with fail
        go_roundw
        case rel => exact ⟨1 + 1, by go_num, by omega, HA.out, HB2.out, BW.out⟩
        case measure => (simp [intOf] <;> omega)
    ·
      have ix : ∀ w, (Instr.index 122 (.agg #[.int .u64 (l0 : Nat), .int .u64 (l1 : Nat), .int .u64 (l2 : Nat)]) (.int .i64 2)).run Try.prog w = .ok (.int .u64 (l2 : Nat)) w := fun _ => by kernel_rfl
      have h3 : (2 : Int) < 3 := by omega
      by_cases hin : (d + 2) < 72
      · have hin' : (d : Int) + 2 < 72 := by omega
        have c := cell_of_row wr (w.heap.size + 1) ((d + 2)) _ _ _ HB.out
        have f := frozen_of_row wr (w.heap.size + 1) ((d + 2)) _ _ HB.out
        rw [List.getElem?_toArray, wcells_get _ hin] at c
        have z := BW.out.size
        go_wp2_with fail
        have HB2 : Hid ((wr.setCell ⟨w.heap.size + 1, (d + 2), none⟩ (.int .u64 (l2 : Nat))).heap[w.heap.size + 1]? = some (.cells (wcells (plW P d (2 + 1))).toArray 82 (0, 0))) := Lib.hid (by
          rw [heap_setCell_same _ _ _ _ _ _ HB.out, wcells_set]
          rw [wcells_congr (U := plW P d (2 + 1)) (fun i hi => by
            unfold upd plW
            by_cases e : i = (d + 2)
            · rw [if_pos e, if_pos (by omega), e, show (d + 2) - d = 2 by omega]; exact HL2.out
            · rw [if_neg e]
              by_cases e2 : d ≤ i ∧ i < d + 2
              · rw [if_pos e2, if_pos (by omega)]
              · rw [if_neg e2, if_neg (by omega)])])
        have HA2 : Hid ((wr.setCell ⟨w.heap.size + 1, (d + 2), none⟩ (.int .u64 (l2 : Nat))).heap[w.heap.size]? = some (.cells (wcells fun _ => 0).toArray 82 (0, 0))) := Lib.hid (by
          rw [heap_setCell_other _ _ _ _ (by show w.heap.size ≠ w.heap.size + 1; omega)]; exact HA.out)
        have BW2 := Lib.hid (BW.out.setCell (p := ⟨w.heap.size + 1, (d + 2), none⟩) (by show w.heap.size ≤ w.heap.size + 1; omega) (.int .u64 (l2 : Nat)))
        clear c f z
        go_roundw
        case rel => exact ⟨2 + 1, by go_num, by omega, HA2.out, HB2.out, BW2.out⟩
        case measure => (simp [intOf] <;> omega)
      · have hin' : ¬ (d : Int) + 2 < 72 := by omega
        have HB2 : Hid (wr.heap[w.heap.size + 1]? = some (.cells (wcells (plW P d (2 + 1))).toArray 82 (0, 0))) := Lib.hid (by
          rw [HB.out, wcells_congr (U := plW P d (2 + 1)) (fun i hi => by
            unfold plW
            by_cases e2 : d ≤ i ∧ i < d + 2
            · rw [if_pos e2, if_pos (by omega)]
            · rw [if_neg e2, if_neg (by omega)])])
        go_wp2_with fail
        go_roundw
        case rel => exact ⟨2 + 1, by go_num, by omega, HA.out, HB2.out, BW.out⟩
        case measure => (simp [intOf] <;> omega)
    · go_wp2_with (first
        | (with_reducible refine wpList_load_row rfl 82 _ rfl (w.heap.size + 1) rfl 82 (wcells (plW P d 3)).toArray (0, 0) _ HB.out Try.underlying82 rfl (info72' _) ?_)
        | (with_reducible refine wpList_store_row rfl 82 _ _ rfl w.heap.size (wcells (plW P d 3)).toArray rfl rfl 82 (wcells fun _ => 0).toArray HA.out (info72' _) (by simp [wcells]) (all_oneCell_toArray (wcells_one _)) ?_))
      refine bodyPost_ret (results_cell_row Try.results107 _ _ w.heap.size 82 (wcells (plW P d 3)).toArray (0, 0) _ rfl
        (setRow_heap _ _ (wcells fun _ => 0).toArray _ _ _ HA.out) Try.underlying82 rfl (info72' _)) rfl ⟨?_, below_setRow BW.out (Nat.le_refl _)⟩
      rw [wcells_congr (U := natW (P * W64 ^ d)) (fun i hi => by
        rw [natW_up]
        unfold plW
        by_cases h : i < d
        · rw [if_pos h, if_neg (by omega)]
        · rw [if_neg h]
          by_cases h2 : i < d + 3
          · rw [if_pos (by omega)]
          · rw [if_neg (by omega), natW_top HP3.out (by omega)])]
end Go.Proofs.Ytjakjnmfndfehaa
