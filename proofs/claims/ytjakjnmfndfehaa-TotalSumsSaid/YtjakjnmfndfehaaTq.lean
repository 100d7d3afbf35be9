/- The document's numbers of 280 digits brought to 0 to 65535: the walk. Condition: digits that are not too great. -/
import Derived.Test.YtjakjnmfndfehaaTp
namespace Go.Pst
open Go Ieee
set_option linter.unusedVariables false
/-- Digits and the size of a number. -/
def IsDig (Y : Nat → Int) : Prop := ∀ i, i < 280 → 0 ≤ Y i ∧ Y i < 65536
def K28 : Nat := 280
def D28 : Nat := 65536 ^ K28
theorem settled_pos {X : Nat → Int} (h : ¬ stC X 280 < 0) (hs : (bv X 280).natAbs < D28) : 0 ≤ bv X 280 ∧ bv (stD X) 280 = bv X 280 := by
  have e : bv (stD X) 280 + stC X 280 * ((D28 : Nat) : Int) = bv X 280 := stD_val X K28
  have hb : 0 ≤ bv (stD X) 280 ∧ bv (stD X) 280 < ((D28 : Nat) : Int) := bv_nonneg (X := stD X) K28 fun i _ => stD_bd X i
  generalize bv (stD X) 280 = y at *
  generalize bv X 280 = s at *
  generalize stC X 280 = c at *
  have hp : 0 < D28 := by omega
  have hc : c = 0 := by
    refine Decidable.byContradiction fun hne => ?_
    have h1 : 1 * (D28 : Int) ≤ c * (D28 : Int) := Int.mul_le_mul_of_nonneg_right (by omega) (by omega)
    omega
  subst hc
  rw [Int.zero_mul] at e
  omega
theorem settled_neg {X : Nat → Int} (h : stC X 280 < 0) (hs : (bv X 280).natAbs < D28) : bv X 280 < 0 ∧ bv (ngD (stD X)) 280 = -bv X 280 := by
  have e : bv (stD X) 280 + stC X 280 * ((D28 : Nat) : Int) = bv X 280 := stD_val X K28
  have hb : 0 ≤ bv (stD X) 280 ∧ bv (stD X) 280 < ((D28 : Nat) : Int) := bv_nonneg (X := stD X) K28 fun i _ => stD_bd X i
  have e2 : bv (ngD (stD X)) 280 = ngB (stD X) 280 * ((D28 : Nat) : Int) - bv (stD X) 280 := ngD_val (stD X) K28
  have hb2 : 0 ≤ bv (ngD (stD X)) 280 ∧ bv (ngD (stD X)) 280 < ((D28 : Nat) : Int) := bv_nonneg (X := ngD (stD X)) K28 fun i _ => ngD_bd (stD_bd X i)
  have hg := ngB_bd (stD X) 280
  generalize bv (ngD (stD X)) 280 = z at *
  generalize ngB (stD X) 280 = g at *
  generalize bv (stD X) 280 = y at *
  generalize bv X 280 = s at *
  generalize stC X 280 = c at *
  have hp : 0 < D28 := by omega
  have hc : c = -1 := by
    refine Decidable.byContradiction fun hne => ?_
    have h1 : c * (D28 : Int) ≤ -2 * (D28 : Int) := Int.mul_le_mul_of_nonneg_right (by omega) (by omega)
    omega
  subst hc
  rw [Int.neg_mul, Int.one_mul] at e
  obtain rfl | rfl : g = 0 ∨ g = 1 := by omega
  · rw [Int.zero_mul] at e2; omega
  · rw [Int.one_mul] at e2; omega
theorem bv_zero_iff {Y : Nat → Int} : ∀ n, (∀ i, i < n → 0 ≤ Y i ∧ Y i < 65536) → (bv Y n = 0 ↔ ∀ i, i < n → Y i = 0)
  | 0, _ => by simp [bv]
  | n + 1, h => by
    have ih := bv_zero_iff n fun i hi => h i (by omega)
    have hb := bv_nonneg n fun i hi => h i (by omega)
    have hn := h n (by omega)
    have hp : (0 : Int) < ((65536 ^ n : Nat) : Int) := by have := Nat.pow_pos (n := n) (show 0 < 65536 by omega); omega
    have hm : 0 ≤ Y n * ((65536 ^ n : Nat) : Int) := Int.mul_nonneg hn.1 (Int.le_of_lt hp)
    unfold bv
    constructor
    · intro e i hi
      have h1 : bv Y n = 0 := by omega
      have h2 : Y n * ((65536 ^ n : Nat) : Int) = 0 := by omega
      by_cases hin : i = n
      · rw [hin]; exact (Int.mul_eq_zero.1 h2).resolve_right (by omega)
      · exact ih.1 h1 i (by omega)
    · intro hall
      rw [ih.2 fun i hi => hall i (by omega), hall n (by omega), Int.zero_mul]; rfl
end Go.Pst
namespace Go.Proofs.Ytjakjnmfndfehaa
open Go.RowKit Go.Pst
set_option maxRecDepth 20000
set_option linter.unusedSimpArgs false
set_option linter.unusedVariables false

theorem results_cell_tmp {P : Program} {fn : Func} {p t2 : Tmp} {ty : TypeId} (h : fn.results = #[.cell p ty, .tmp t2]) (tmps : Array Value) (w : World) (g : Nat) (t : TypeId) (cs : Array Value) (fr : Nat × Nat) (d : TypeDesc)
    (hp : tmps.getD p undef = .pointer (some ⟨g, 0, none⟩)) (hg : w.heap[g]? = some (.cells cs t fr))
    (hu : P.underlying ty = some d) (hd : (match d with | .struct _ | .array _ _ => true | _ => false) = true) (hi : (P.info? ty).map (·.size) = some cs.size) :
    (results fn tmps).run P w = .ok (.tuple #[.agg cs, tmps.getD t2 undef]) w := by
  have hp' : tmps[p]?.getD undef = .pointer (some ⟨g, 0, none⟩) := by simpa using hp
  simp [results, h, hp', asAddr, run_loadVar_row w g t ty cs fr d hg hu hd hi]

def mixI (X Y : Nat → Int) (k i : Nat) : Int := if i < k then Y i else X i
theorem mixI_set (X Y : Nat → Int) (k : Nat) : updI (mixI X Y k) k (Y k) = mixI X Y (k + 1) := funext fun i => by
  unfold updI mixI
  by_cases h : i = k
  · rw [if_pos h, h, if_pos (by omega)]
  · rw [if_neg h]
    by_cases h2 : i < k
    · rw [if_pos h2, if_pos (by omega)]
    · rw [if_neg h2, if_neg (by omega)]

def SetPost (S : Int) (w : World) (en : Ending) (w' : World) : Prop :=
  ∃ Y, en = .returned (.tuple #[.agg (bcells Y).toArray, .int .i64 (sgnI S)]) ∧ IsDig Y ∧ bv Y 280 = (S.natAbs : Int) ∧ Below w.heap.size w w'

theorem and16 (c : Int) (h1 : -9223372036854775808 ≤ c) (h2 : c < 9223372036854775808) : bits .and .i64 c 65535 = c % 65536 := by
  show IntKind.i64.wrap ((BitVec.ofInt 64 c &&& BitVec.ofInt 64 65535).toNat : Int) = _
  rw [BitVec.toNat_and, BitVec.toNat_ofInt, BitVec.toNat_ofInt]
  rw [show ((65535 : Int) % ((2 ^ 64 : Nat) : Int)).toNat = 65535 from by decide, show (65535 : Nat) = 2 ^ 16 - 1 from rfl, Nat.and_two_pow_sub_one_eq_mod, IntKind.wrap_i64]
  omega


set_option maxHeartbeats 4000000 in
theorem settled_any (X : Nat → Int) (b : Int) (w : World) (hb : 0 ≤ b ∧ b ≤ 1152921504606846976) (hX : ∀ i, i < 280 → -b ≤ X i ∧ X i ≤ b) (hs : (bv X 280).natAbs < D28) :
    Calls Try.prog 95 #[.agg (bcells X).toArray] w (SetPost (bv X 280) w) := by
  have HX := Lib.hid hX
  have HN := Lib.hid (settled_neg (X := X)); have HP := Lib.hid (settled_pos (X := X)); have HS := Lib.hid hs
  clear hX hs
  obtain ⟨S, hS⟩ : ∃ S, S = bv X 280 := ⟨_, rfl⟩
  rw [← hS] at HN HP HS ⊢
  clear hS
  go_enter Try.func95, Try.ntmps95
  go_wp2_with fail
  go_loopw [4, 5] (fun c t wr => ∃ k : Nat, t = .int .i64 k ∧ k ≤ 280 ∧ c = .int .i64 (stC X k) ∧ wr.heap[w.heap.size]? = some (.cells (bcells (mixI X (stD X) k)).toArray 88 (0, 0)) ∧ wr.heap[w.heap.size + 1]? = some (.cells (bcells fun _ => 0).toArray 88 (0, 0)) ∧
      Below w.heap.size w wr ∧ w.heap.size + 2 ≤ wr.heap.size) (fun _ t _ => 280 - (intOf t).toNat)
  case atStart =>
    refine ⟨0, rfl, by omega, rfl, ?_, ?_, ((Below.refl _ _).alloc (Nat.le_refl _) _).alloc (by simp) _, by simp⟩
    · rw [heap_alloc2_old]; rfl
    · rw [heap_alloc2_new, bcells_zero]
  case round =>
    obtain ⟨k, rfl, hk, rfl, ha, hz, hw, hsz⟩ := hrel
    have HA := Lib.hid ha; have HZ := Lib.hid hz; have BW := Lib.hid hw
    clear ha hz hw
    by_cases hk2 : k < 280
    · have h3 : (k : Int) < 280 := by omega
      have h0 : (0 : Int) ≤ (k : Int) := by omega
      have c1 := cell_of_row wr w.heap.size k _ _ _ HA.out
      have f1 := frozen_of_row wr w.heap.size k _ _ HA.out
      rw [List.getElem?_toArray, bcells_get _ hk2, show mixI X (stD X) k k = X k by unfold mixI; rw [if_neg (by omega)]] at c1
      have hcb := stC_bd hb.1 k fun i hi => HX.out i (by omega)
      have hxb := HX.out k hk2
      have hst : stC X (k + 1) = (stC X k + X k) / 65536 := rfl
      have hsd : stD X k = (stC X k + X k) % 65536 := rfl
      have HSET := Lib.hid (mixI_set X (stD X) k)
      obtain ⟨x, hx⟩ : ∃ x, x = X k := ⟨_, rfl⟩
      obtain ⟨c, hc⟩ : ∃ c, c = stC X k := ⟨_, rfl⟩
      rw [← hx] at c1 hxb hst hsd; rw [← hc] at hcb hst hsd ⊢
      have hand := and16 (c + x) (by omega) (by omega)
      have HST := Lib.hid hst; have HSD := Lib.hid hsd
      clear hx hc hst hsd
      have HA2 : Hid ((wr.setCell ⟨w.heap.size, k, none⟩ (.int .i64 ((c + x) % 65536))).heap[w.heap.size]? = some (.cells (bcells (mixI X (stD X) (k + 1))).toArray 88 (0, 0))) := Lib.hid (by
        rw [heap_setCell_same _ _ _ _ _ _ HA.out, bcells_set, ← HSET.out, HSD.out])
      have HZ2 : Hid ((wr.setCell ⟨w.heap.size, k, none⟩ (.int .i64 ((c + x) % 65536))).heap[w.heap.size + 1]? = some (.cells (bcells fun _ => 0).toArray 88 (0, 0))) := Lib.hid (by
        rw [heap_setCell_other _ _ _ _ (by show w.heap.size + 1 ≠ w.heap.size; omega)]; exact HZ.out)
      have BW2 := Lib.hid (BW.out.setCell (p := ⟨w.heap.size, k, none⟩) (Nat.le_refl _) (.int .i64 ((c + x) % 65536)))
      have hsz2 : w.heap.size + 2 ≤ (wr.setCell ⟨w.heap.size, k, none⟩ (.int .i64 ((c + x) % 65536))).heap.size := by rw [Reg.size_setCell]; exact hsz
      go_wp2_with fail
      go_roundw
      case rel => exact ⟨k + 1, by go_num, by omega, by rw [HST.out], HA2.out, HZ2.out, BW2.out, hsz2⟩
      case measure => (simp [intOf] <;> omega)
    · obtain rfl : k = 280 := by omega
      have hmx : bcells (mixI X (stD X) 280) = bcells (stD X) := bcells_congr fun i hi => by unfold mixI; rw [if_pos hi]
      rw [hmx] at HA
      clear hmx
      by_cases hc : stC X 280 < 0
      · obtain ⟨n1, n2⟩ := HN.out hc HS.out
        have HSN := Lib.hid n1; have HBV := Lib.hid n2
        clear n1 n2
        obtain ⟨c, ec⟩ : ∃ c, c = stC X 280 := ⟨_, rfl⟩
        rw [← ec] at hc ⊢
        clear ec HN HP
        go_wp2_with fail
        clear hc
        go_loopw [6, 7] (fun bo t wr => ∃ k : Nat, t = .int .i64 k ∧ k ≤ 280 ∧ bo = .int .i64 (ngB (stD X) k) ∧ wr.heap[w.heap.size]? = some (.cells (bcells (mixI (stD X) (ngD (stD X)) k)).toArray 88 (0, 0)) ∧ wr.heap[w.heap.size + 1]? = some (.cells (bcells fun _ => 0).toArray 88 (0, 0)) ∧
            Below w.heap.size w wr ∧ w.heap.size + 2 ≤ wr.heap.size) (fun _ t _ => 280 - (intOf t).toNat)
        case atStart => exact ⟨0, rfl, by omega, rfl, HA.out, HZ.out, BW.out, hsz⟩
        case round =>
          clear HA HZ BW hsz
          obtain ⟨k, rfl, hk, rfl, ha, hz, hw, hsz⟩ := hrel
          have HA := Lib.hid ha; have HZ := Lib.hid hz; have BW := Lib.hid hw
          clear ha hz hw
          by_cases hk2 : k < 280
          · have h3 : (k : Int) < 280 := by omega
            have h0 : (0 : Int) ≤ (k : Int) := by omega
            have c1 := cell_of_row wr w.heap.size k _ _ _ HA.out
            have f1 := frozen_of_row wr w.heap.size k _ _ HA.out
            rw [List.getElem?_toArray, bcells_get _ hk2, show mixI (stD X) (ngD (stD X)) k k = stD X k by unfold mixI; rw [if_neg (by omega)]] at c1
            have hgb := ngB_bd (stD X) k
            have hxb := stD_bd X k
            have hst : ngB (stD X) (k + 1) = if -stD X k - ngB (stD X) k < 0 then 1 else 0 := rfl
            have hsd : ngD (stD X) k = if -stD X k - ngB (stD X) k < 0 then -stD X k - ngB (stD X) k + 65536 else -stD X k - ngB (stD X) k := rfl
            have HSET := Lib.hid (mixI_set (stD X) (ngD (stD X)) k)
            obtain ⟨x, hx⟩ : ∃ x, x = stD X k := ⟨_, rfl⟩
            obtain ⟨g, hg⟩ : ∃ c, c = ngB (stD X) k := ⟨_, rfl⟩
            rw [← hx] at c1 hxb hst hsd; rw [← hg] at hgb hst hsd ⊢
            clear hx hg
            by_cases hd : -x - g < 0
            · rw [if_pos hd] at hst hsd
              obtain ⟨v, hv⟩ : ∃ v, v = -x - g + 65536 := ⟨_, rfl⟩
              rw [← hv] at hsd
              have hv' := hv.symm
              have HST := Lib.hid hst; have HSD := Lib.hid hsd
              clear hst hsd hv
              have hvb : -9223372036854775808 ≤ v ∧ v ≤ 9223372036854775807 := by omega
              obtain ⟨hvb1, hvb2⟩ := hvb
              have HA2 : Hid ((wr.setCell ⟨w.heap.size, k, none⟩ (.int .i64 v)).heap[w.heap.size]? = some (.cells (bcells (mixI (stD X) (ngD (stD X)) (k + 1))).toArray 88 (0, 0))) := Lib.hid (by
                rw [heap_setCell_same _ _ _ _ _ _ HA.out, bcells_set, ← HSET.out, HSD.out])
              have HZ2 : Hid ((wr.setCell ⟨w.heap.size, k, none⟩ (.int .i64 v)).heap[w.heap.size + 1]? = some (.cells (bcells fun _ => 0).toArray 88 (0, 0))) := Lib.hid (by
                rw [heap_setCell_other _ _ _ _ (by show w.heap.size + 1 ≠ w.heap.size; omega)]; exact HZ.out)
              have BW2 := Lib.hid (BW.out.setCell (p := ⟨w.heap.size, k, none⟩) (Nat.le_refl _) (.int .i64 v))
              have hsz2 : w.heap.size + 2 ≤ (wr.setCell ⟨w.heap.size, k, none⟩ (.int .i64 v)).heap.size := by rw [Reg.size_setCell]; exact hsz
              go_wp2_with fail
              go_roundw
              case rel => exact ⟨k + 1, by go_num, by omega, by rw [HST.out], HA2.out, HZ2.out, BW2.out, hsz2⟩
              case measure => (simp [intOf] <;> omega)
            · rw [if_neg hd] at hst hsd
              obtain ⟨v, hv⟩ : ∃ v, v = -x - g := ⟨_, rfl⟩
              rw [← hv] at hsd hd
              have hv' := hv.symm
              have HST := Lib.hid hst; have HSD := Lib.hid hsd
              clear hst hsd
              have hvb : -9223372036854775808 ≤ v ∧ v ≤ 9223372036854775807 := by omega
              obtain ⟨hvb1, hvb2⟩ := hvb
              clear hv
              have HA2 : Hid ((wr.setCell ⟨w.heap.size, k, none⟩ (.int .i64 v)).heap[w.heap.size]? = some (.cells (bcells (mixI (stD X) (ngD (stD X)) (k + 1))).toArray 88 (0, 0))) := Lib.hid (by
                rw [heap_setCell_same _ _ _ _ _ _ HA.out, bcells_set, ← HSET.out, HSD.out])
              have HZ2 : Hid ((wr.setCell ⟨w.heap.size, k, none⟩ (.int .i64 v)).heap[w.heap.size + 1]? = some (.cells (bcells fun _ => 0).toArray 88 (0, 0))) := Lib.hid (by
                rw [heap_setCell_other _ _ _ _ (by show w.heap.size + 1 ≠ w.heap.size; omega)]; exact HZ.out)
              have BW2 := Lib.hid (BW.out.setCell (p := ⟨w.heap.size, k, none⟩) (Nat.le_refl _) (.int .i64 v))
              have hsz2 : w.heap.size + 2 ≤ (wr.setCell ⟨w.heap.size, k, none⟩ (.int .i64 v)).heap.size := by rw [Reg.size_setCell]; exact hsz
              go_wp2_with fail
              go_roundw
              case rel => exact ⟨k + 1, by go_num, by omega, by rw [HST.out], HA2.out, HZ2.out, BW2.out, hsz2⟩
              case measure => (simp [intOf] <;> omega)
          · obtain rfl : k = 280 := by omega
            have hmx : bcells (mixI (stD X) (ngD (stD X)) 280) = bcells (ngD (stD X)) := bcells_congr fun i hi => by unfold mixI; rw [if_pos hi]
            rw [hmx] at HA
            clear hmx
            have HY : Hid (IsDig (ngD (stD X))) := Lib.hid fun i hi => ngD_bd (stD_bd X i)
            have hsg : sgnI S = -1 := by unfold sgnI; rw [if_pos HSN.out]
            have HBV2 : Hid (bv (ngD (stD X)) 280 = (S.natAbs : Int)) := Lib.hid (by rw [HBV.out]; have := HSN.out; omega)
            have HSG := Lib.hid hsg
            clear hsg
            generalize ngD (stD X) = Y at *
            go_wp2_with (first
              | (with_reducible refine wpList_load_row rfl 88 _ rfl w.heap.size rfl 88 (bcells Y).toArray (0, 0) _ HA.out Try.underlying88 rfl (info280' _) ?_)
              | (with_reducible refine wpList_store_row rfl 88 _ _ rfl (w.heap.size + 1) (bcells Y).toArray rfl rfl 88 (bcells fun _ => 0).toArray HZ.out (info280' _) (by simp [bcells]) (all_oneCell_toArray (bcells_one _)) ?_))
            refine bodyPost_ret (results_cell_tmp Try.results95 _ _ (w.heap.size + 1) 88 (bcells Y).toArray (0, 0) _ rfl
              (setRow_heap _ _ (bcells fun _ => 0).toArray _ _ _ HZ.out) Try.underlying88 rfl (info280' _)) rfl ⟨Y, ?_, HY.out, HBV2.out, below_setRow BW.out (by omega)⟩
            rw [HSG.out]; rfl
      · obtain ⟨n1, n2⟩ := HP.out (by omega) HS.out
        have HSN := Lib.hid n1; have HBV := Lib.hid n2
        have HZI := Lib.hid (bv_zero_iff (Y := stD X) 280 fun i _ => stD_bd X i)
        have HY : Hid (IsDig (stD X)) := Lib.hid fun i hi => stD_bd X i
        have HBV2 : Hid (bv (stD X) 280 = (S.natAbs : Int)) := Lib.hid (by rw [n2]; omega)
        clear n1 n2
        obtain ⟨c, ec⟩ : ∃ c, c = stC X 280 := ⟨_, rfl⟩
        rw [← ec] at hc ⊢
        clear ec HN HP
        go_wp2_with fail
        clear hc
        generalize stD X = Y at *
        go_loop [9] (fun t => ∃ k : Nat, t = .int .i64 k ∧ k ≤ 280 ∧ ∀ i, i < k → Y i = 0) (fun t => 280 - (intOf t).toNat)
        case atStart => exact ⟨0, rfl, by omega, fun i hi => by omega⟩
        case round =>
          obtain ⟨k, rfl, hk, hall⟩ := hrel
          have HALL := Lib.hid hall
          clear hall
          by_cases hk2 : k < 280
          · have h3 : (k : Int) < 280 := by omega
            have h0 : (0 : Int) ≤ (k : Int) := by omega
            have c1 := cell_of_row wr w.heap.size k _ _ _ HA.out
            rw [List.getElem?_toArray, bcells_get _ hk2] at c1
            by_cases hy : Y k = 0
            · have HN2 : Hid (∀ i, i < k + 1 → Y i = 0) := Lib.hid fun i hi => by
                by_cases e : i = k
                · rw [e]; exact hy
                · exact HALL.out i (by omega)
              rw [hy] at c1
              clear hy
              go_wp2_with fail
              go_round
              case rel => exact ⟨k + 1, by go_num, by omega, HN2.out⟩
              case measure => (simp [intOf] <;> omega)
            · have HSG : Hid (sgnI S = 1) := Lib.hid (by
                have h1 := HSN.out
                have h2 : S ≠ 0 := fun e => hy ((HZI.out.1 (by rw [HBV.out]; exact e)) k hk2)
                unfold sgnI; rw [if_neg (by omega), if_neg h2])
              obtain ⟨y, ey⟩ : ∃ y, y = Y k := ⟨_, rfl⟩
              rw [← ey] at c1 hy
              have hy' : (y != 0) = true := by simpa using hy
              clear hy ey
              go_wp2_with (first
                | (with_reducible refine wpList_load_row rfl 88 _ rfl w.heap.size rfl 88 (bcells Y).toArray (0, 0) _ HA.out Try.underlying88 rfl (info280' _) ?_)
                | (with_reducible refine wpList_store_row rfl 88 _ _ rfl (w.heap.size + 1) (bcells Y).toArray rfl rfl 88 (bcells fun _ => 0).toArray HZ.out (info280' _) (by simp [bcells]) (all_oneCell_toArray (bcells_one _)) ?_))
              refine bodyPost_ret (results_cell_tmp Try.results95 _ _ (w.heap.size + 1) 88 (bcells Y).toArray (0, 0) _ rfl
                (setRow_heap _ _ (bcells fun _ => 0).toArray _ _ _ HZ.out) Try.underlying88 rfl (info280' _)) rfl ⟨Y, ?_, HY.out, HBV2.out, below_setRow BW.out (by omega)⟩
              rw [HSG.out]; rfl
          · obtain rfl : k = 280 := by omega
            have HSG : Hid (sgnI S = 0) := Lib.hid (by
              have h2 : S = 0 := by rw [← HBV.out]; exact HZI.out.2 HALL.out
              rw [h2]; rfl)
            go_wp2_with (first
              | (with_reducible refine wpList_load_row rfl 88 _ rfl w.heap.size rfl 88 (bcells Y).toArray (0, 0) _ HA.out Try.underlying88 rfl (info280' _) ?_)
              | (with_reducible refine wpList_store_row rfl 88 _ _ rfl (w.heap.size + 1) (bcells Y).toArray rfl rfl 88 (bcells fun _ => 0).toArray HZ.out (info280' _) (by simp [bcells]) (all_oneCell_toArray (bcells_one _)) ?_))
            refine bodyPost_ret (results_cell_tmp Try.results95 _ _ (w.heap.size + 1) 88 (bcells Y).toArray (0, 0) _ rfl
              (setRow_heap _ _ (bcells fun _ => 0).toArray _ _ _ HZ.out) Try.underlying88 rfl (info280' _)) rfl ⟨Y, ?_, HY.out, HBV2.out, below_setRow BW.out (by omega)⟩
            rw [HSG.out]; rfl
end Go.Proofs.Ytjakjnmfndfehaa
