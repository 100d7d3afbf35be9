/- The document's numbers of 280 digits: a digit more, a number more: walks. Conditions: places within the digits, digits that are not too great. -/
import Derived.Test.YtjakjnmfndfehaaTo
namespace Go.Proofs.Ytjakjnmfndfehaa
open Go.RowKit Go.Pst
set_option maxRecDepth 20000
set_option linter.unusedSimpArgs false
set_option linter.unusedVariables false

def bcells (X : Nat → Int) : List Value := (List.range 280).map fun i => .int .i64 (X i)
theorem bcells_len (X : Nat → Int) : (bcells X).length = 280 := by unfold bcells; rw [List.length_map, List.length_range]
theorem bcells_get (X : Nat → Int) {i : Nat} (hi : i < 280) : (bcells X)[i]? = some (.int .i64 (X i)) := by
  unfold bcells; rw [List.getElem?_map, List.getElem?_range hi]; rfl
theorem bcells_congr {X Y : Nat → Int} (h : ∀ i, i < 280 → X i = Y i) : bcells X = bcells Y :=
  List.map_congr_left fun i hi => by rw [h i (List.mem_range.1 hi)]
theorem bcells_set (X : Nat → Int) (k : Nat) (v : Int) : (bcells X).toArray.setIfInBounds k (.int .i64 v) = (bcells (updI X k v)).toArray := by
  rw [List.setIfInBounds_toArray]
  congr 1
  apply List.ext_getElem?
  intro i
  rw [List.getElem?_set, bcells_len]
  by_cases hi : i < 280
  · rw [bcells_get _ hi, bcells_get _ hi]
    unfold updI
    by_cases hk : k = i
    · rw [if_pos hk, if_pos (by omega), if_pos hk.symm]
    · rw [if_neg hk, if_neg (Ne.symm hk)]
  · rw [List.getElem?_eq_none (l := bcells X) (by rw [bcells_len]; omega), List.getElem?_eq_none (l := bcells (updI X k v)) (by rw [bcells_len]; omega)]
    by_cases hk : k = i
    · rw [if_pos hk, if_neg (by omega)]
    · rw [if_neg hk]
theorem bcells_one (X : Nat → Int) : ∀ v ∈ bcells X, v.oneCell' = true := fun v hv => by
  unfold bcells at hv
  obtain ⟨i, _, rfl⟩ := List.mem_map.1 hv
  rfl
theorem bcells_zero : Try.zeroCells88 = (bcells fun _ => 0).toArray := by kernel_rfl
theorem info280 : (Try.prog.info? 88).map (·.size) = some (bcells fun _ => 0).toArray.size := by kernel_rfl
theorem info280' (X : Nat → Int) : (Try.prog.info? 88).map (·.size) = some (bcells X).toArray.size := by
  rw [info280]; simp [bcells]
def BigPost (X : Nat → Int) (w : World) (en : Ending) (w' : World) : Prop := en = .returned (.agg (bcells X).toArray) ∧ Below w.heap.size w w'

theorem bcells_setl (X : Nat → Int) (k : Nat) (v : Int) : (bcells X).set k (.int .i64 v) = bcells (updI X k v) := by
  have h := bcells_set X k v
  rw [List.setIfInBounds_toArray] at h
  exact (congrArg Array.toList h)

set_option maxHeartbeats 2000000 in
theorem digit_any (X : Nat → Int) (k : Nat) (d : Int) (neg : Bool) (w : World) (hk : k < 280) (hX : -2305843009213693952 ≤ X k ∧ X k ≤ 2305843009213693952) (hd : -2305843009213693952 ≤ d ∧ d ≤ 2305843009213693952) :
    Calls Try.prog 112 #[.agg (bcells X).toArray, .int .i64 k, .int .i64 d, .bool neg] w (BigPost (updI X k (X k + (if neg then -d else d))) w) := by
  have hk1 : (k : Int) < 280 := by omega
  have hk0 : (0 : Int) ≤ (k : Int) := by omega
  have gk := bcells_get X hk
  obtain ⟨x, hx⟩ : ∃ x, x = X k := ⟨_, rfl⟩
  rw [← hx] at gk hX ⊢
  obtain ⟨v, hv⟩ : ∃ v, v = x + (if neg then -d else d) := ⟨_, rfl⟩
  rw [← hv]
  have HV := Lib.hid hv
  have hg : (bcells X).toArray[k]? = some (.int .i64 x) := by rw [List.getElem?_toArray]; exact gk
  clear gk hx hv
  have hvb : -9223372036854775808 ≤ v ∧ v ≤ 9223372036854775807 := by rw [HV.out]; split <;> omega
  obtain ⟨hvb1, hvb2⟩ := hvb
  have HBW : ∀ o1 o2 : Obj, Below w.heap.size w (((w.alloc o1).alloc o2).setRow (w.heap.size + 1) (bcells (updI X k v)).toArray) := fun o1 o2 => below_setRow (((Below.refl _ _).alloc (Nat.le_refl _) _).alloc (by simp) _) (by omega)
  have HBW := Lib.hid HBW
  cases neg
  · have hv : x + d = v := by rw [HV.out]; rfl
    go_enter Try.func112, Try.ntmps112
    go_wp2_with (first
      | (with_reducible refine wpList_load_row rfl 88 _ rfl w.heap.size rfl 88 (bcells (updI X k v)).toArray (0, 0) _ (by rw [heap_alloc2_old, bcells_setl]) Try.underlying88 rfl (info280' _) ?_)
      | (with_reducible refine wpList_store_row rfl 88 _ _ rfl (w.heap.size + 1) (bcells (updI X k v)).toArray rfl rfl 88 (bcells fun _ => 0).toArray (by rw [heap_alloc2_new, bcells_zero]) (info280' _) (by simp [bcells]) (all_oneCell_toArray (bcells_one _)) ?_))
    refine bodyPost_ret (results_cell_row Try.results112 _ _ (w.heap.size + 1) 88 (bcells (updI X k v)).toArray (0, 0) _ rfl
      (setRow_heap _ _ (bcells fun _ => 0).toArray _ _ _ (by rw [heap_alloc2_new, bcells_zero])) Try.underlying88 rfl (info280' _)) rfl ⟨rfl, HBW.out _ _⟩
  · have hv : x + -d = v := by rw [HV.out]; rfl
    have hvs : x - d = v := by omega
    go_enter Try.func112, Try.ntmps112
    go_wp2_with (first
      | (with_reducible refine wpList_load_row rfl 88 _ rfl w.heap.size rfl 88 (bcells (updI X k v)).toArray (0, 0) _ (by rw [heap_alloc2_old, bcells_setl]) Try.underlying88 rfl (info280' _) ?_)
      | (with_reducible refine wpList_store_row rfl 88 _ _ rfl (w.heap.size + 1) (bcells (updI X k v)).toArray rfl rfl 88 (bcells fun _ => 0).toArray (by rw [heap_alloc2_new, bcells_zero]) (info280' _) (by simp [bcells]) (all_oneCell_toArray (bcells_one _)) ?_))
    refine bodyPost_ret (results_cell_row Try.results112 _ _ (w.heap.size + 1) 88 (bcells (updI X k v)).toArray (0, 0) _ rfl
      (setRow_heap _ _ (bcells fun _ => 0).toArray _ _ _ (by rw [heap_alloc2_new, bcells_zero])) Try.underlying88 rfl (info280' _)) rfl ⟨rfl, HBW.out _ _⟩



set_option maxHeartbeats 4000000 in
theorem plus_any (X : Nat → Int) (m at' : Nat) (neg : Bool) (b : Int) (w : World) (hm : m < W64) (hat : at' < 4400) (hb : 0 ≤ b ∧ b ≤ 1152921504606846976) (hX : ∀ i, i < 280 → -b ≤ X i ∧ X i ≤ b) :
    Calls Try.prog 84 #[.agg (bcells X).toArray, .int .u64 m, .int .i64 ((at' : Int) - 2200), .bool neg] w (BigPost (plusD X m (at' % 16) (at' / 16) neg 5) w) := by
  have hs : at' % 16 < 16 := by omega
  obtain ⟨s, hs1⟩ : ∃ s, s = at' % 16 := ⟨_, rfl⟩
  obtain ⟨k, hk1⟩ : ∃ k, k = at' / 16 := ⟨_, rfl⟩
  rw [← hs1] at hs
  rw [← hs1, ← hk1]
  have hk : k + 5 ≤ 280 := by omega
  have e1 : (at' : Int) / 16 = (k : Int) := by omega
  have e2 : (at' : Int) % 16 = (s : Int) := by omega
  have ha0 : (0 : Int) ≤ (at' : Int) := by omega
  have HD := Lib.hid fun (j : Nat) (w : World) (hj : j < 5) => digit_any (plusD X m s k neg j) (k + j) ((dig5 m s j : Nat) : Int) neg w (by omega) (by
    have := plusD_bd (neg := neg) (k := k) (j := j) (i := k + j) hm hs (hX (k + j) (by omega)); omega) (by have := dig5_lt (i := j) hm hs; omega)
  have HST : Hid (∀ j, updI (plusD X m s k neg j) (k + j) (plusD X m s k neg j (k + j) + (if neg then -((dig5 m s j : Nat) : Int) else ((dig5 m s j : Nat) : Int))) = plusD X m s k neg (j + 1)) := Lib.hid fun j => funext fun i => by
    have := plusD_step X m s k neg j i
    unfold sgn at this; exact this
  have hlow : IntKind.u64.wrap ((m : Int) * 2 ^ s) = ((m * 2 ^ s % W64 : Nat) : Int) := by
    rw [show ((m : Int) * 2 ^ s) = ((m * 2 ^ s : Nat) : Int) by rw [Int.natCast_mul, Int.natCast_pow]; rfl]; exact wrapM _
  have hhigh : (m : Int) / 2 ^ (64 - s) = ((m / 2 ^ (64 - s) : Nat) : Int) := by rw [Int.natCast_ediv, Int.natCast_pow]; rfl
  have hd4 : dig5 m s 4 = m / 2 ^ (64 - s) := rfl
  have hdj : ∀ j, j < 4 → dig5 m s j = m * 2 ^ s % W64 / 2 ^ (16 * j) % 65536 := fun j hj => by unfold dig5; rw [if_pos hj]
  have hh0 : s = 0 → dig5 m s 4 = 0 := fun h => by rw [hd4, h, Nat.sub_zero]; exact Nat.div_eq_of_lt hm
  obtain ⟨low, hlw⟩ : ∃ l, l = m * 2 ^ s % W64 := ⟨_, rfl⟩
  have hll : low < 18446744073709551616 := by rw [hlw]; exact Nat.mod_lt _ w64_pos
  rw [← hlw] at hlow hdj
  rw [← hd4] at hhigh
  have h4l := dig5_lt (i := 4) hm hs
  obtain ⟨hi, hhi⟩ : ∃ l, l = dig5 m s 4 := ⟨_, rfl⟩
  rw [← hhi] at hhigh hh0 h4l
  have HHI := Lib.hid hhi
  have HDJ := Lib.hid hdj
  have HH0 := Lib.hid hh0
  clear hlw hd4 hdj hhi hh0 hs1 hk1 hX
  have hk0 : (0 : Int) ≤ (k : Int) := by omega
  have hs0 : (0 : Int) ≤ (s : Int) := by omega
  by_cases hsp : s = 0
  · have hh := HH0.out hsp
    have HHI := Lib.hid (HHI.out.symm.trans hh).symm
    have HSP := Lib.hid hsp
    have hsp' : ¬ (0 : Int) < (s : Int) := by omega
    clear hhigh h4l hh hsp
    go_enter Try.func84, Try.ntmps84
    go_wp2_with fail
    clear e1 e2
    go_loopw [14] (fun t wr => ∃ j : Nat, t = .int .i64 j ∧ j ≤ 4 ∧ wr.heap[w.heap.size]? = some (.cells (bcells (plusD X m s k neg j)).toArray 88 (0, 0)) ∧ wr.heap[w.heap.size + 1]? = some (.cells (bcells fun _ => 0).toArray 88 (0, 0)) ∧ Below w.heap.size w wr ∧ w.heap.size + 2 ≤ wr.heap.size) (fun t _ => 4 - (intOf t).toNat)
    case atStart =>
      refine ⟨0, rfl, by omega, ?_, ?_, ((Below.refl _ _).alloc (Nat.le_refl _) _).alloc (by simp) _, by simp⟩
      · rw [heap_alloc2_old, bcells_congr (X := plusD X m s k neg 0) (Y := X) (fun i hi => by unfold plusD; rw [if_neg (by omega)]; omega)]
      · rw [heap_alloc2_new, bcells_zero]
    case round =>
      obtain ⟨j, rfl, hj, ha, hz, hw, hsz⟩ := hrel
      have HA := Lib.hid ha; have HZ := Lib.hid hz; have BW := Lib.hid hw
      clear ha hz hw
      obtain rfl | rfl | rfl | rfl | rfl : j = 0 ∨ j = 1 ∨ j = 2 ∨ j = 3 ∨ j = 4 := by omega
      ·
        have h3 : (0 : Int) < 4 := by omega
        have hand : bits .and .u64 ((low : Int)) 65535 = ((dig5 m s 0 : Nat) : Int) := by
          rw [HDJ.out 0 (by omega)]
          have e := and_mask (b := low / 2 ^ (16 * 0)) (n := 16) (Nat.lt_of_le_of_lt (Nat.div_le_self _ _) hll) (by omega)
          rw [show (2 : Nat) ^ (16 * 0) = 1 from rfl, Nat.div_one] at e ⊢
          exact e
        have hdl := dig5_lt (i := 0) hm hs
        have HDj := Lib.hid (HD.out 0 wr (by omega))
        rw [HST.out 0] at HDj
        obtain ⟨dg, hdg⟩ : ∃ x, x = dig5 m s 0 := ⟨_, rfl⟩
        rw [← hdg] at hand HDj hdl
        clear hdg
        go_wp2_with (with_reducible refine wpList_load_row rfl 88 _ rfl w.heap.size rfl 88 (bcells (plusD X m s k neg 0)).toArray (0, 0) _ HA.out Try.underlying88 rfl (info280' _) ?_)
        refine HDj.out.mono ?_
        rintro en wn hp
        obtain ⟨rfl, hbn⟩ := hp
        have zz := BW.out.size
        have HA1 := Lib.hid ((hbn.block w.heap.size (by omega)).trans HA.out)
        have HZ1 := Lib.hid ((hbn.block (w.heap.size + 1) (by omega)).trans HZ.out)
        have BW1 := Lib.hid (BW.out.trans (hbn.mono zz))
        have hsz1 : w.heap.size + 2 ≤ wn.heap.size := Nat.le_trans hsz hbn.size
        clear hbn HDj
        go_wp2_with (with_reducible refine wpList_store_row rfl 88 _ _ rfl w.heap.size (bcells (plusD X m s k neg (0 + 1))).toArray rfl rfl 88 (bcells (plusD X m s k neg 0)).toArray HA1.out (info280' _) (by simp [bcells]) (all_oneCell_toArray (bcells_one _)) ?_)
        have HA2 := Lib.hid (setRow_heap wn w.heap.size _ (bcells (plusD X m s k neg (0 + 1))).toArray _ _ HA1.out)
        have HZ2 := Lib.hid ((setRow_other wn w.heap.size (w.heap.size + 1) (bcells (plusD X m s k neg (0 + 1))).toArray (by omega)).trans HZ1.out)
        have BW2 := Lib.hid (below_setRow (cs := (bcells (plusD X m s k neg (0 + 1))).toArray) BW1.out (Nat.le_refl _))
        have hsz2 : w.heap.size + 2 ≤ (wn.setRow w.heap.size (bcells (plusD X m s k neg (0 + 1))).toArray).heap.size := by rw [setRow_size]; exact hsz1
        go_roundw
        case rel => exact ⟨0 + 1, by go_num, by omega, HA2.out, HZ2.out, BW2.out, hsz2⟩
        case measure => (simp [intOf] <;> omega)
      ·
        have h3 : (1 : Int) < 4 := by omega
        have hand : bits .and .u64 ((low : Int) / 65536) 65535 = ((dig5 m s 1 : Nat) : Int) := by
          rw [HDJ.out 1 (by omega)]
          have e := and_mask (b := low / 2 ^ (16 * 1)) (n := 16) (Nat.lt_of_le_of_lt (Nat.div_le_self _ _) hll) (by omega)
          skip
          exact e
        have hdl := dig5_lt (i := 1) hm hs
        have HDj := Lib.hid (HD.out 1 wr (by omega))
        rw [HST.out 1] at HDj
        obtain ⟨dg, hdg⟩ : ∃ x, x = dig5 m s 1 := ⟨_, rfl⟩
        rw [← hdg] at hand HDj hdl
        clear hdg
        go_wp2_with (with_reducible refine wpList_load_row rfl 88 _ rfl w.heap.size rfl 88 (bcells (plusD X m s k neg 1)).toArray (0, 0) _ HA.out Try.underlying88 rfl (info280' _) ?_)
        refine HDj.out.mono ?_
        rintro en wn hp
        obtain ⟨rfl, hbn⟩ := hp
        have zz := BW.out.size
        have HA1 := Lib.hid ((hbn.block w.heap.size (by omega)).trans HA.out)
        have HZ1 := Lib.hid ((hbn.block (w.heap.size + 1) (by omega)).trans HZ.out)
        have BW1 := Lib.hid (BW.out.trans (hbn.mono zz))
        have hsz1 : w.heap.size + 2 ≤ wn.heap.size := Nat.le_trans hsz hbn.size
        clear hbn HDj
        go_wp2_with (with_reducible refine wpList_store_row rfl 88 _ _ rfl w.heap.size (bcells (plusD X m s k neg (1 + 1))).toArray rfl rfl 88 (bcells (plusD X m s k neg 1)).toArray HA1.out (info280' _) (by simp [bcells]) (all_oneCell_toArray (bcells_one _)) ?_)
        have HA2 := Lib.hid (setRow_heap wn w.heap.size _ (bcells (plusD X m s k neg (1 + 1))).toArray _ _ HA1.out)
        have HZ2 := Lib.hid ((setRow_other wn w.heap.size (w.heap.size + 1) (bcells (plusD X m s k neg (1 + 1))).toArray (by omega)).trans HZ1.out)
        have BW2 := Lib.hid (below_setRow (cs := (bcells (plusD X m s k neg (1 + 1))).toArray) BW1.out (Nat.le_refl _))
        have hsz2 : w.heap.size + 2 ≤ (wn.setRow w.heap.size (bcells (plusD X m s k neg (1 + 1))).toArray).heap.size := by rw [setRow_size]; exact hsz1
        go_roundw
        case rel => exact ⟨1 + 1, by go_num, by omega, HA2.out, HZ2.out, BW2.out, hsz2⟩
        case measure => (simp [intOf] <;> omega)
      ·
        have h3 : (2 : Int) < 4 := by omega
        have hand : bits .and .u64 ((low : Int) / 4294967296) 65535 = ((dig5 m s 2 : Nat) : Int) := by
          rw [HDJ.out 2 (by omega)]
          have e := and_mask (b := low / 2 ^ (16 * 2)) (n := 16) (Nat.lt_of_le_of_lt (Nat.div_le_self _ _) hll) (by omega)
          skip
          exact e
        have hdl := dig5_lt (i := 2) hm hs
        have HDj := Lib.hid (HD.out 2 wr (by omega))
        rw [HST.out 2] at HDj
        obtain ⟨dg, hdg⟩ : ∃ x, x = dig5 m s 2 := ⟨_, rfl⟩
        rw [← hdg] at hand HDj hdl
        clear hdg
        go_wp2_with (with_reducible refine wpList_load_row rfl 88 _ rfl w.heap.size rfl 88 (bcells (plusD X m s k neg 2)).toArray (0, 0) _ HA.out Try.underlying88 rfl (info280' _) ?_)
        refine HDj.out.mono ?_
        rintro en wn hp
        obtain ⟨rfl, hbn⟩ := hp
        have zz := BW.out.size
        have HA1 := Lib.hid ((hbn.block w.heap.size (by omega)).trans HA.out)
        have HZ1 := Lib.hid ((hbn.block (w.heap.size + 1) (by omega)).trans HZ.out)
        have BW1 := Lib.hid (BW.out.trans (hbn.mono zz))
        have hsz1 : w.heap.size + 2 ≤ wn.heap.size := Nat.le_trans hsz hbn.size
        clear hbn HDj
        go_wp2_with (with_reducible refine wpList_store_row rfl 88 _ _ rfl w.heap.size (bcells (plusD X m s k neg (2 + 1))).toArray rfl rfl 88 (bcells (plusD X m s k neg 2)).toArray HA1.out (info280' _) (by simp [bcells]) (all_oneCell_toArray (bcells_one _)) ?_)
        have HA2 := Lib.hid (setRow_heap wn w.heap.size _ (bcells (plusD X m s k neg (2 + 1))).toArray _ _ HA1.out)
        have HZ2 := Lib.hid ((setRow_other wn w.heap.size (w.heap.size + 1) (bcells (plusD X m s k neg (2 + 1))).toArray (by omega)).trans HZ1.out)
        have BW2 := Lib.hid (below_setRow (cs := (bcells (plusD X m s k neg (2 + 1))).toArray) BW1.out (Nat.le_refl _))
        have hsz2 : w.heap.size + 2 ≤ (wn.setRow w.heap.size (bcells (plusD X m s k neg (2 + 1))).toArray).heap.size := by rw [setRow_size]; exact hsz1
        go_roundw
        case rel => exact ⟨2 + 1, by go_num, by omega, HA2.out, HZ2.out, BW2.out, hsz2⟩
        case measure => (simp [intOf] <;> omega)
      ·
        have h3 : (3 : Int) < 4 := by omega
        have hand : bits .and .u64 ((low : Int) / 281474976710656) 65535 = ((dig5 m s 3 : Nat) : Int) := by
          rw [HDJ.out 3 (by omega)]
          have e := and_mask (b := low / 2 ^ (16 * 3)) (n := 16) (Nat.lt_of_le_of_lt (Nat.div_le_self _ _) hll) (by omega)
          skip
          exact e
        have hdl := dig5_lt (i := 3) hm hs
        have HDj := Lib.hid (HD.out 3 wr (by omega))
        rw [HST.out 3] at HDj
        obtain ⟨dg, hdg⟩ : ∃ x, x = dig5 m s 3 := ⟨_, rfl⟩
        rw [← hdg] at hand HDj hdl
        clear hdg
        go_wp2_with (with_reducible refine wpList_load_row rfl 88 _ rfl w.heap.size rfl 88 (bcells (plusD X m s k neg 3)).toArray (0, 0) _ HA.out Try.underlying88 rfl (info280' _) ?_)
        refine HDj.out.mono ?_
        rintro en wn hp
        obtain ⟨rfl, hbn⟩ := hp
        have zz := BW.out.size
        have HA1 := Lib.hid ((hbn.block w.heap.size (by omega)).trans HA.out)
        have HZ1 := Lib.hid ((hbn.block (w.heap.size + 1) (by omega)).trans HZ.out)
        have BW1 := Lib.hid (BW.out.trans (hbn.mono zz))
        have hsz1 : w.heap.size + 2 ≤ wn.heap.size := Nat.le_trans hsz hbn.size
        clear hbn HDj
        go_wp2_with (with_reducible refine wpList_store_row rfl 88 _ _ rfl w.heap.size (bcells (plusD X m s k neg (3 + 1))).toArray rfl rfl 88 (bcells (plusD X m s k neg 3)).toArray HA1.out (info280' _) (by simp [bcells]) (all_oneCell_toArray (bcells_one _)) ?_)
        have HA2 := Lib.hid (setRow_heap wn w.heap.size _ (bcells (plusD X m s k neg (3 + 1))).toArray _ _ HA1.out)
        have HZ2 := Lib.hid ((setRow_other wn w.heap.size (w.heap.size + 1) (bcells (plusD X m s k neg (3 + 1))).toArray (by omega)).trans HZ1.out)
        have BW2 := Lib.hid (below_setRow (cs := (bcells (plusD X m s k neg (3 + 1))).toArray) BW1.out (Nat.le_refl _))
        have hsz2 : w.heap.size + 2 ≤ (wn.setRow w.heap.size (bcells (plusD X m s k neg (3 + 1))).toArray).heap.size := by rw [setRow_size]; exact hsz1
        go_roundw
        case rel => exact ⟨3 + 1, by go_num, by omega, HA2.out, HZ2.out, BW2.out, hsz2⟩
        case measure => (simp [intOf] <;> omega)
      · have HDj := Lib.hid (HD.out 4 wr (by omega))
        rw [HST.out 4, ← HHI.out] at HDj
        go_wp2_with (with_reducible refine wpList_load_row rfl 88 _ rfl w.heap.size rfl 88 (bcells (plusD X m s k neg 4)).toArray (0, 0) _ HA.out Try.underlying88 rfl (info280' _) ?_)
        refine HDj.out.mono ?_
        rintro en wn hp
        obtain ⟨rfl, hbn⟩ := hp
        have zz := BW.out.size
        have HZ1 := Lib.hid ((hbn.block (w.heap.size + 1) (by omega)).trans HZ.out)
        have BW1 := Lib.hid (BW.out.trans (hbn.mono zz))
        clear hbn HDj
        go_wp2_with (with_reducible refine wpList_store_row rfl 88 _ _ rfl (w.heap.size + 1) (bcells (plusD X m s k neg (4 + 1))).toArray rfl rfl 88 (bcells fun _ => 0).toArray HZ1.out (info280' _) (by simp [bcells]) (all_oneCell_toArray (bcells_one _)) ?_)
        refine bodyPost_ret (results_cell_row Try.results84 _ _ (w.heap.size + 1) 88 (bcells (plusD X m s k neg (4 + 1))).toArray (0, 0) _ rfl
          (setRow_heap _ _ (bcells fun _ => 0).toArray _ _ _ HZ1.out) Try.underlying88 rfl (info280' _)) rfl ⟨rfl, below_setRow BW1.out (by omega)⟩
  · have hsp' : (0 : Int) < (s : Int) := by omega
    have hpos : 0 < s := by omega
    clear hsp
    go_enter Try.func84, Try.ntmps84
    go_wp2_with fail
    clear e1 e2
    go_loopw [14] (fun t wr => ∃ j : Nat, t = .int .i64 j ∧ j ≤ 4 ∧ wr.heap[w.heap.size]? = some (.cells (bcells (plusD X m s k neg j)).toArray 88 (0, 0)) ∧ wr.heap[w.heap.size + 1]? = some (.cells (bcells fun _ => 0).toArray 88 (0, 0)) ∧ Below w.heap.size w wr ∧ w.heap.size + 2 ≤ wr.heap.size) (fun t _ => 4 - (intOf t).toNat)
    case atStart =>
      refine ⟨0, rfl, by omega, ?_, ?_, ((Below.refl _ _).alloc (Nat.le_refl _) _).alloc (by simp) _, by simp⟩
      · rw [heap_alloc2_old, bcells_congr (X := plusD X m s k neg 0) (Y := X) (fun i hi => by unfold plusD; rw [if_neg (by omega)]; omega)]
      · rw [heap_alloc2_new, bcells_zero]
    case round =>
      obtain ⟨j, rfl, hj, ha, hz, hw, hsz⟩ := hrel
      have HA := Lib.hid ha; have HZ := Lib.hid hz; have BW := Lib.hid hw
      clear ha hz hw
      obtain rfl | rfl | rfl | rfl | rfl : j = 0 ∨ j = 1 ∨ j = 2 ∨ j = 3 ∨ j = 4 := by omega
      ·
        have h3 : (0 : Int) < 4 := by omega
        have hand : bits .and .u64 ((low : Int)) 65535 = ((dig5 m s 0 : Nat) : Int) := by
          rw [HDJ.out 0 (by omega)]
          have e := and_mask (b := low / 2 ^ (16 * 0)) (n := 16) (Nat.lt_of_le_of_lt (Nat.div_le_self _ _) hll) (by omega)
          rw [show (2 : Nat) ^ (16 * 0) = 1 from rfl, Nat.div_one] at e ⊢
          exact e
        have hdl := dig5_lt (i := 0) hm hs
        have HDj := Lib.hid (HD.out 0 wr (by omega))
        rw [HST.out 0] at HDj
        obtain ⟨dg, hdg⟩ : ∃ x, x = dig5 m s 0 := ⟨_, rfl⟩
        rw [← hdg] at hand HDj hdl
        clear hdg
        go_wp2_with (with_reducible refine wpList_load_row rfl 88 _ rfl w.heap.size rfl 88 (bcells (plusD X m s k neg 0)).toArray (0, 0) _ HA.out Try.underlying88 rfl (info280' _) ?_)
        refine HDj.out.mono ?_
        rintro en wn hp
        obtain ⟨rfl, hbn⟩ := hp
        have zz := BW.out.size
        have HA1 := Lib.hid ((hbn.block w.heap.size (by omega)).trans HA.out)
        have HZ1 := Lib.hid ((hbn.block (w.heap.size + 1) (by omega)).trans HZ.out)
        have BW1 := Lib.hid (BW.out.trans (hbn.mono zz))
        have hsz1 : w.heap.size + 2 ≤ wn.heap.size := Nat.le_trans hsz hbn.size
        clear hbn HDj
        go_wp2_with (with_reducible refine wpList_store_row rfl 88 _ _ rfl w.heap.size (bcells (plusD X m s k neg (0 + 1))).toArray rfl rfl 88 (bcells (plusD X m s k neg 0)).toArray HA1.out (info280' _) (by simp [bcells]) (all_oneCell_toArray (bcells_one _)) ?_)
        have HA2 := Lib.hid (setRow_heap wn w.heap.size _ (bcells (plusD X m s k neg (0 + 1))).toArray _ _ HA1.out)
        have HZ2 := Lib.hid ((setRow_other wn w.heap.size (w.heap.size + 1) (bcells (plusD X m s k neg (0 + 1))).toArray (by omega)).trans HZ1.out)
        have BW2 := Lib.hid (below_setRow (cs := (bcells (plusD X m s k neg (0 + 1))).toArray) BW1.out (Nat.le_refl _))
        have hsz2 : w.heap.size + 2 ≤ (wn.setRow w.heap.size (bcells (plusD X m s k neg (0 + 1))).toArray).heap.size := by rw [setRow_size]; exact hsz1
        go_roundw
        case rel => exact ⟨0 + 1, by go_num, by omega, HA2.out, HZ2.out, BW2.out, hsz2⟩
        case measure => (simp [intOf] <;> omega)
      ·
        have h3 : (1 : Int) < 4 := by omega
        have hand : bits .and .u64 ((low : Int) / 65536) 65535 = ((dig5 m s 1 : Nat) : Int) := by
          rw [HDJ.out 1 (by omega)]
          have e := and_mask (b := low / 2 ^ (16 * 1)) (n := 16) (Nat.lt_of_le_of_lt (Nat.div_le_self _ _) hll) (by omega)
          skip
          exact e
        have hdl := dig5_lt (i := 1) hm hs
        have HDj := Lib.hid (HD.out 1 wr (by omega))
        rw [HST.out 1] at HDj
        obtain ⟨dg, hdg⟩ : ∃ x, x = dig5 m s 1 := ⟨_, rfl⟩
        rw [← hdg] at hand HDj hdl
        clear hdg
        go_wp2_with (with_reducible refine wpList_load_row rfl 88 _ rfl w.heap.size rfl 88 (bcells (plusD X m s k neg 1)).toArray (0, 0) _ HA.out Try.underlying88 rfl (info280' _) ?_)
        refine HDj.out.mono ?_
        rintro en wn hp
        obtain ⟨rfl, hbn⟩ := hp
        have zz := BW.out.size
        have HA1 := Lib.hid ((hbn.block w.heap.size (by omega)).trans HA.out)
        have HZ1 := Lib.hid ((hbn.block (w.heap.size + 1) (by omega)).trans HZ.out)
        have BW1 := Lib.hid (BW.out.trans (hbn.mono zz))
        have hsz1 : w.heap.size + 2 ≤ wn.heap.size := Nat.le_trans hsz hbn.size
        clear hbn HDj
        go_wp2_with (with_reducible refine wpList_store_row rfl 88 _ _ rfl w.heap.size (bcells (plusD X m s k neg (1 + 1))).toArray rfl rfl 88 (bcells (plusD X m s k neg 1)).toArray HA1.out (info280' _) (by simp [bcells]) (all_oneCell_toArray (bcells_one _)) ?_)
        have HA2 := Lib.hid (setRow_heap wn w.heap.size _ (bcells (plusD X m s k neg (1 + 1))).toArray _ _ HA1.out)
        have HZ2 := Lib.hid ((setRow_other wn w.heap.size (w.heap.size + 1) (bcells (plusD X m s k neg (1 + 1))).toArray (by omega)).trans HZ1.out)
        have BW2 := Lib.hid (below_setRow (cs := (bcells (plusD X m s k neg (1 + 1))).toArray) BW1.out (Nat.le_refl _))
        have hsz2 : w.heap.size + 2 ≤ (wn.setRow w.heap.size (bcells (plusD X m s k neg (1 + 1))).toArray).heap.size := by rw [setRow_size]; exact hsz1
        go_roundw
        case rel => exact ⟨1 + 1, by go_num, by omega, HA2.out, HZ2.out, BW2.out, hsz2⟩
        case measure => (simp [intOf] <;> omega)
      ·
        have h3 : (2 : Int) < 4 := by omega
        have hand : bits .and .u64 ((low : Int) / 4294967296) 65535 = ((dig5 m s 2 : Nat) : Int) := by
          rw [HDJ.out 2 (by omega)]
          have e := and_mask (b := low / 2 ^ (16 * 2)) (n := 16) (Nat.lt_of_le_of_lt (Nat.div_le_self _ _) hll) (by omega)
          skip
          exact e
        have hdl := dig5_lt (i := 2) hm hs
        have HDj := Lib.hid (HD.out 2 wr (by omega))
        rw [HST.out 2] at HDj
        obtain ⟨dg, hdg⟩ : ∃ x, x = dig5 m s 2 := ⟨_, rfl⟩
        rw [← hdg] at hand HDj hdl
        clear hdg
        go_wp2_with (with_reducible refine wpList_load_row rfl 88 _ rfl w.heap.size rfl 88 (bcells (plusD X m s k neg 2)).toArray (0, 0) _ HA.out Try.underlying88 rfl (info280' _) ?_)
        refine HDj.out.mono ?_
        rintro en wn hp
        obtain ⟨rfl, hbn⟩ := hp
        have zz := BW.out.size
        have HA1 := Lib.hid ((hbn.block w.heap.size (by omega)).trans HA.out)
        have HZ1 := Lib.hid ((hbn.block (w.heap.size + 1) (by omega)).trans HZ.out)
        have BW1 := Lib.hid (BW.out.trans (hbn.mono zz))
        have hsz1 : w.heap.size + 2 ≤ wn.heap.size := Nat.le_trans hsz hbn.size
        clear hbn HDj
        go_wp2_with (with_reducible refine wpList_store_row rfl 88 _ _ rfl w.heap.size (bcells (plusD X m s k neg (2 + 1))).toArray rfl rfl 88 (bcells (plusD X m s k neg 2)).toArray HA1.out (info280' _) (by simp [bcells]) (all_oneCell_toArray (bcells_one _)) ?_)
        have HA2 := Lib.hid (setRow_heap wn w.heap.size _ (bcells (plusD X m s k neg (2 + 1))).toArray _ _ HA1.out)
        have HZ2 := Lib.hid ((setRow_other wn w.heap.size (w.heap.size + 1) (bcells (plusD X m s k neg (2 + 1))).toArray (by omega)).trans HZ1.out)
        have BW2 := Lib.hid (below_setRow (cs := (bcells (plusD X m s k neg (2 + 1))).toArray) BW1.out (Nat.le_refl _))
        have hsz2 : w.heap.size + 2 ≤ (wn.setRow w.heap.size (bcells (plusD X m s k neg (2 + 1))).toArray).heap.size := by rw [setRow_size]; exact hsz1
        go_roundw
        case rel => exact ⟨2 + 1, by go_num, by omega, HA2.out, HZ2.out, BW2.out, hsz2⟩
        case measure => (simp [intOf] <;> omega)
      ·
        have h3 : (3 : Int) < 4 := by omega
        have hand : bits .and .u64 ((low : Int) / 281474976710656) 65535 = ((dig5 m s 3 : Nat) : Int) := by
          rw [HDJ.out 3 (by omega)]
          have e := and_mask (b := low / 2 ^ (16 * 3)) (n := 16) (Nat.lt_of_le_of_lt (Nat.div_le_self _ _) hll) (by omega)
          skip
          exact e
        have hdl := dig5_lt (i := 3) hm hs
        have HDj := Lib.hid (HD.out 3 wr (by omega))
        rw [HST.out 3] at HDj
        obtain ⟨dg, hdg⟩ : ∃ x, x = dig5 m s 3 := ⟨_, rfl⟩
        rw [← hdg] at hand HDj hdl
        clear hdg
        go_wp2_with (with_reducible refine wpList_load_row rfl 88 _ rfl w.heap.size rfl 88 (bcells (plusD X m s k neg 3)).toArray (0, 0) _ HA.out Try.underlying88 rfl (info280' _) ?_)
        refine HDj.out.mono ?_
        rintro en wn hp
        obtain ⟨rfl, hbn⟩ := hp
        have zz := BW.out.size
        have HA1 := Lib.hid ((hbn.block w.heap.size (by omega)).trans HA.out)
        have HZ1 := Lib.hid ((hbn.block (w.heap.size + 1) (by omega)).trans HZ.out)
        have BW1 := Lib.hid (BW.out.trans (hbn.mono zz))
        have hsz1 : w.heap.size + 2 ≤ wn.heap.size := Nat.le_trans hsz hbn.size
        clear hbn HDj
        go_wp2_with (with_reducible refine wpList_store_row rfl 88 _ _ rfl w.heap.size (bcells (plusD X m s k neg (3 + 1))).toArray rfl rfl 88 (bcells (plusD X m s k neg 3)).toArray HA1.out (info280' _) (by simp [bcells]) (all_oneCell_toArray (bcells_one _)) ?_)
        have HA2 := Lib.hid (setRow_heap wn w.heap.size _ (bcells (plusD X m s k neg (3 + 1))).toArray _ _ HA1.out)
        have HZ2 := Lib.hid ((setRow_other wn w.heap.size (w.heap.size + 1) (bcells (plusD X m s k neg (3 + 1))).toArray (by omega)).trans HZ1.out)
        have BW2 := Lib.hid (below_setRow (cs := (bcells (plusD X m s k neg (3 + 1))).toArray) BW1.out (Nat.le_refl _))
        have hsz2 : w.heap.size + 2 ≤ (wn.setRow w.heap.size (bcells (plusD X m s k neg (3 + 1))).toArray).heap.size := by rw [setRow_size]; exact hsz1
        go_roundw
        case rel => exact ⟨3 + 1, by go_num, by omega, HA2.out, HZ2.out, BW2.out, hsz2⟩
        case measure => (simp [intOf] <;> omega)
      · have HDj := Lib.hid (HD.out 4 wr (by omega))
        rw [HST.out 4, ← HHI.out] at HDj
        go_wp2_with (with_reducible refine wpList_load_row rfl 88 _ rfl w.heap.size rfl 88 (bcells (plusD X m s k neg 4)).toArray (0, 0) _ HA.out Try.underlying88 rfl (info280' _) ?_)
        refine HDj.out.mono ?_
        rintro en wn hp
        obtain ⟨rfl, hbn⟩ := hp
        have zz := BW.out.size
        have HZ1 := Lib.hid ((hbn.block (w.heap.size + 1) (by omega)).trans HZ.out)
        have BW1 := Lib.hid (BW.out.trans (hbn.mono zz))
        clear hbn HDj
        go_wp2_with (with_reducible refine wpList_store_row rfl 88 _ _ rfl (w.heap.size + 1) (bcells (plusD X m s k neg (4 + 1))).toArray rfl rfl 88 (bcells fun _ => 0).toArray HZ1.out (info280' _) (by simp [bcells]) (all_oneCell_toArray (bcells_one _)) ?_)
        refine bodyPost_ret (results_cell_row Try.results84 _ _ (w.heap.size + 1) 88 (bcells (plusD X m s k neg (4 + 1))).toArray (0, 0) _ rfl
          (setRow_heap _ _ (bcells fun _ => 0).toArray _ _ _ HZ1.out) Try.underlying88 rfl (info280' _)) rfl ⟨rfl, below_setRow BW1.out (by omega)⟩
end Go.Proofs.Ytjakjnmfndfehaa
