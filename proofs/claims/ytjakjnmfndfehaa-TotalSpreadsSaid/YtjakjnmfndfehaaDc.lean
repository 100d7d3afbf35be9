/- Whole numbers of 280 digits to the base 65536, plain: a digit more, digits brought to 0 to 65535, turned about, bits. No condition. · The document's numbers of 280 digits: a digit more, a number more: walks. Conditions: places within the digits, digits that are not too great. · The document's numbers of 280 digits brought to 0 to 65535: the walk. Condition: digits that are not too great. · The document's numbers of 280 digits: a bit, a number scaled: walks. Conditions: places within the digits. · The document's numbers of 280 digits rounded once: the walk. Condition: digits from 0 to 65535. · The document's exact sum: none, infinite, negative, parts, None, out: walks; and Exact. Conditions: numbers of 64 bits, at most 65536 of them. · The document's exact sum: the walk. Condition: at most 65536 numbers of 64 bits. -/
import Derived.Test.YtjakjnmfndfehaaDb
import Derived.OwnWalk
namespace Go.Pst
open Go Ieee
set_option linter.unusedVariables false
set_option linter.unusedSimpArgs false

/-- The number that the first n digits are. -/
def bv (X : Nat → Int) : Nat → Int
  | 0 => 0
  | n + 1 => bv X n + X n * ((65536 ^ n : Nat) : Int)
def updI (X : Nat → Int) (k : Nat) (v : Int) (i : Nat) : Int := if i = k then v else X i
theorem bv_congr {X Y : Nat → Int} : ∀ n, (∀ i, i < n → X i = Y i) → bv X n = bv Y n
  | 0, _ => rfl
  | n + 1, h => by unfold bv; rw [bv_congr n fun i hi => h i (by omega), h n (by omega)]
theorem bv_upd {X : Nat → Int} {k : Nat} {v : Int} : ∀ n, k < n → bv (updI X k v) n = bv X n + (v - X k) * ((65536 ^ k : Nat) : Int)
  | 0, h => by omega
  | n + 1, h => by
    unfold bv
    by_cases hk : k = n
    · subst hk
      rw [bv_congr (X := updI X k v) (Y := X) k fun i hi => by unfold updI; rw [if_neg (by omega)]]
      rw [show updI X k v k = v by unfold updI; rw [if_pos rfl], Int.sub_mul]; omega
    · rw [bv_upd n (by omega), show updI X k v n = X n by unfold updI; rw [if_neg (by omega)]]; omega

/-- The five digits of a number of 64 bits, shifted. -/
def dig5 (m s i : Nat) : Nat := if i < 4 then m * 2 ^ s % W64 / 2 ^ (16 * i) % 65536 else m / 2 ^ (64 - s)
theorem dig5_sum {m s : Nat} (hm : m < W64) (hs : s < 16) :
    dig5 m s 0 + dig5 m s 1 * 65536 + dig5 m s 2 * 65536 ^ 2 + dig5 m s 3 * 65536 ^ 3 + dig5 m s 4 * 65536 ^ 4 = m * 2 ^ s := by
  have h4 : m * 2 ^ s / W64 = m / 2 ^ (64 - s) := by
    rw [pow_split (n := s) (by omega), ← Nat.div_div_eq_div_mul, Nat.mul_div_cancel _ (Nat.two_pow_pos s)]
  have e := Nat.mod_add_div (m * 2 ^ s) W64
  rw [h4] at e
  unfold dig5
  simp only [show (0 : Nat) < 4 by omega, show (1 : Nat) < 4 by omega, show (2 : Nat) < 4 by omega, show (3 : Nat) < 4 by omega, show ¬ (4 : Nat) < 4 by omega, if_true, if_false]
  have hlt := Nat.mod_lt (m * 2 ^ s) w64_pos
  generalize m * 2 ^ s % W64 = L at *
  generalize m / 2 ^ (64 - s) = H at *
  rw [← e]
  unfold W64 at *
  simp only [show (2 : Nat) ^ (16 * 0) = 1 from rfl, show (2 : Nat) ^ (16 * 1) = 65536 from rfl, show (2 : Nat) ^ (16 * 2) = 4294967296 from rfl, show (2 : Nat) ^ (16 * 3) = 281474976710656 from rfl,
    show (65536 : Nat) ^ 2 = 4294967296 from rfl, show (65536 : Nat) ^ 3 = 281474976710656 from rfl, show (65536 : Nat) ^ 4 = 18446744073709551616 from rfl]
  omega
theorem dig5_lt {m s i : Nat} (hm : m < W64) (hs : s < 16) : dig5 m s i < 65536 := by
  unfold dig5
  split
  · exact Nat.mod_lt _ (by omega)
  · refine Nat.div_lt_of_lt_mul ?_
    have h1 : 2 ^ 48 ≤ 2 ^ (64 - s) := Nat.pow_le_pow_right (by omega) (by omega)
    have h2 : 2 ^ 48 * 65536 ≤ 2 ^ (64 - s) * 65536 := Nat.mul_le_mul_right _ h1
    unfold W64 at hm
    omega

/-- Digits after so many of the five have been put in. -/
def plusD (X : Nat → Int) (m s k : Nat) (neg : Bool) (j i : Nat) : Int := X i + (if k ≤ i ∧ i < k + j then sgn neg (dig5 m s (i - k)) else 0)
theorem plusD_step (X : Nat → Int) (m s k : Nat) (neg : Bool) (j : Nat) : ∀ i, updI (plusD X m s k neg j) (k + j) (plusD X m s k neg j (k + j) + sgn neg (dig5 m s j)) i = plusD X m s k neg (j + 1) i := fun i => by
  unfold updI plusD
  by_cases h : i = k + j
  · rw [if_pos h, h, if_neg (by omega), if_pos (by omega), show k + j - k = j by omega]; omega
  · rw [if_neg h]
    by_cases h2 : k ≤ i ∧ i < k + j
    · rw [if_pos h2, if_pos (by omega)]
    · rw [if_neg h2, if_neg (by omega)]
def dSum (m s : Nat) : Nat → Nat
  | 0 => 0
  | j + 1 => dSum m s j + dig5 m s j * 65536 ^ j
theorem sgn_add (b : Bool) (x y : Nat) : sgn b (x + y) = sgn b x + sgn b y := by unfold sgn; cases b <;> simp <;> omega
theorem sgn_times (b : Bool) (x y : Nat) : sgn b (x * y) = sgn b x * (y : Int) := by
  unfold sgn; cases b
  · simp
  · simp only [if_true, Int.natCast_mul, Int.neg_mul]
theorem bv_plus (X : Nat → Int) (m s k n : Nat) (neg : Bool) : ∀ j, k + j ≤ n → bv (plusD X m s k neg j) n = bv X n + sgn neg (dSum m s j * 65536 ^ k) := fun j => by
  induction j with
  | zero =>
    intro h
    rw [bv_congr (Y := X) n fun i hi => by unfold plusD; rw [if_neg (by omega)]; omega]
    unfold dSum sgn; rw [Nat.zero_mul]; cases neg <;> simp
  | succ j ih =>
    intro h
    rw [← bv_congr n fun i _ => plusD_step X m s k neg j i, bv_upd n (by omega), ih (by omega)]
    rw [show plusD X m s k neg j (k + j) + sgn neg (dig5 m s j) - plusD X m s k neg j (k + j) = sgn neg (dig5 m s j) by omega]
    rw [show dSum m s (j + 1) = dSum m s j + dig5 m s j * 65536 ^ j from rfl, Nat.add_mul, sgn_add, Nat.mul_assoc, ← Nat.pow_add, Nat.add_comm j k, sgn_times neg (dig5 m s j)]
    exact Int.add_assoc _ _ _
theorem bv_plus5 {X : Nat → Int} {m s k n : Nat} {neg : Bool} (hk : k + 5 ≤ n) (hm : m < W64) (hs : s < 16) : bv (plusD X m s k neg 5) n = bv X n + sgn neg (m * 2 ^ (16 * k + s)) := by
  rw [bv_plus X m s k n neg 5 hk]
  have h := dig5_sum hm hs
  have e : dSum m s 5 = m * 2 ^ s := by
    rw [← h]; unfold dSum dSum dSum dSum dSum dSum
    rw [Nat.pow_zero, Nat.pow_one, Nat.mul_one, Nat.zero_add]
  rw [e, show (65536 : Nat) = 2 ^ 16 from rfl, ← Nat.pow_mul, Nat.mul_assoc, ← Nat.pow_add, Nat.add_comm s]
theorem plusD_bd {X : Nat → Int} {m s k : Nat} {neg : Bool} {b : Int} (hm : m < W64) (hs : s < 16) {j i : Nat} (h : -b ≤ X i ∧ X i ≤ b) : -(b + 65535) ≤ plusD X m s k neg j i ∧ plusD X m s k neg j i ≤ b + 65535 := by
  unfold plusD
  have := dig5_lt (m := m) (s := s) (i := i - k) hm hs
  unfold sgn
  split
  · split <;> omega
  · omega

/-! ### Brought to 0 to 65535 -/
def stC (X : Nat → Int) : Nat → Int
  | 0 => 0
  | i + 1 => (stC X i + X i) / 65536
def stD (X : Nat → Int) (i : Nat) : Int := (stC X i + X i) % 65536
theorem stD_val (X : Nat → Int) : ∀ n, bv (stD X) n + stC X n * ((65536 ^ n : Nat) : Int) = bv X n
  | 0 => by simp [bv, stC]
  | n + 1 => by
    have h := stD_val X n
    unfold bv stC stD
    have e := Int.emod_add_mul_ediv (stC X n + X n) 65536
    generalize (stC X n + X n) % 65536 = r at *
    generalize (stC X n + X n) / 65536 = q at *
    rw [show bv (fun i => (stC X i + X i) % 65536) n = bv (stD X) n from rfl]
    rw [show ((65536 ^ (n + 1) : Nat) : Int) = 65536 * ((65536 ^ n : Nat) : Int) by rw [Nat.pow_succ, Int.natCast_mul, Int.mul_comm]; rfl]
    have e2 := congrArg (· * ((65536 ^ n : Nat) : Int)) e
    simp only [Int.add_mul] at e2
    rw [show 65536 * q * ((65536 ^ n : Nat) : Int) = q * (65536 * ((65536 ^ n : Nat) : Int)) by rw [Int.mul_comm 65536 q, Int.mul_assoc]] at e2
    omega
theorem stC_bd {X : Nat → Int} {b : Int} (hb : 0 ≤ b) : ∀ n, (∀ i, i < n → -b ≤ X i ∧ X i ≤ b) → -b ≤ stC X n ∧ stC X n ≤ b
  | 0, _ => by unfold stC; omega
  | n + 1, h => by
    have h1 := stC_bd hb n fun i hi => h i (by omega)
    have h2 := h n (by omega)
    unfold stC; omega
theorem stD_bd (X : Nat → Int) (i : Nat) : 0 ≤ stD X i ∧ stD X i < 65536 := by unfold stD; omega
theorem bv_nonneg {X : Nat → Int} : ∀ n, (∀ i, i < n → 0 ≤ X i ∧ X i < 65536) → 0 ≤ bv X n ∧ bv X n < ((65536 ^ n : Nat) : Int)
  | 0, _ => by unfold bv; simp
  | n + 1, h => by
    have h1 := bv_nonneg n fun i hi => h i (by omega)
    have h2 := h n (by omega)
    unfold bv
    have hp : (0 : Int) < ((65536 ^ n : Nat) : Int) := by have := Nat.pow_pos (n := n) (show 0 < 65536 by omega); omega
    rw [show ((65536 ^ (n + 1) : Nat) : Int) = 65536 * ((65536 ^ n : Nat) : Int) by rw [Nat.pow_succ, Int.natCast_mul, Int.mul_comm]; rfl]
    have h3 : 0 ≤ X n * ((65536 ^ n : Nat) : Int) := Int.mul_nonneg h2.1 (Int.le_of_lt hp)
    have h4 : X n * ((65536 ^ n : Nat) : Int) ≤ 65535 * ((65536 ^ n : Nat) : Int) := Int.mul_le_mul_of_nonneg_right (by omega) (Int.le_of_lt hp)
    omega

/-! ### Turned about -/
def ngB (Y : Nat → Int) : Nat → Int
  | 0 => 0
  | i + 1 => if -Y i - ngB Y i < 0 then 1 else 0
def ngD (Y : Nat → Int) (i : Nat) : Int := if -Y i - ngB Y i < 0 then -Y i - ngB Y i + 65536 else -Y i - ngB Y i
theorem ngB_bd (Y : Nat → Int) : ∀ n, 0 ≤ ngB Y n ∧ ngB Y n ≤ 1
  | 0 => by unfold ngB; omega
  | n + 1 => by unfold ngB; split <;> omega
theorem ngD_bd {Y : Nat → Int} {i : Nat} (h : 0 ≤ Y i ∧ Y i < 65536) : 0 ≤ ngD Y i ∧ ngD Y i < 65536 := by
  have := ngB_bd Y i
  unfold ngD; split <;> omega
theorem ngD_val (Y : Nat → Int) : ∀ n, bv (ngD Y) n = ngB Y n * ((65536 ^ n : Nat) : Int) - bv Y n
  | 0 => by simp [bv, ngB]
  | n + 1 => by
    have h := ngD_val Y n
    unfold bv ngB ngD
    rw [show bv (fun i => if -Y i - ngB Y i < 0 then -Y i - ngB Y i + 65536 else -Y i - ngB Y i) n = bv (ngD Y) n from rfl, h]
    rw [show ((65536 ^ (n + 1) : Nat) : Int) = 65536 * ((65536 ^ n : Nat) : Int) by rw [Nat.pow_succ, Int.natCast_mul, Int.mul_comm]; rfl]
    generalize ngB Y n = b at *
    generalize ((65536 ^ n : Nat) : Int) = P at *
    generalize bv Y n = S at *
    generalize Y n = y at *
    split
    · rw [Int.add_mul, Int.sub_mul, Int.neg_mul]; omega
    · rw [Int.sub_mul, Int.neg_mul]; omega
end Go.Pst

namespace Go.Proofs.Ytjakjnmfndfehaa
open Go.RowKit Go.Pst
set_option maxRecDepth 20000
set_option linter.unusedSimpArgs false
set_option linter.unusedVariables false

def bcells (X : Nat → Int) : List Value := (List.range 280).map fun i => .int .i64 (X i)
theorem bcells_len (X : Nat → Int) : (bcells X).length = 280 := by unfold bcells; rw [List.length_map, List.length_range]
theorem bcells_get (X : Nat → Int) {i : Nat} (hi : i < 280) : (bcells X)[i]? = some (.int .i64 (X i)) := by
  unfold bcells; rw [List.getElem?_map, List.getElem?_range hi]; rfl
theorem bcells_congr {X Y : Nat → Int} (h : ∀ i, i < 280 → X i = Y i) : bcells X = bcells Y :=
  List.map_congr_left fun i hi => by rw [h i (List.mem_range.1 hi)]
theorem bcells_set (X : Nat → Int) (k : Nat) (v : Int) : (bcells X).toArray.setIfInBounds k (.int .i64 v) = (bcells (updI X k v)).toArray := by
  rw [List.setIfInBounds_toArray]
  congr 1
  apply List.ext_getElem?
  intro i
  rw [List.getElem?_set, bcells_len]
  by_cases hi : i < 280
  · rw [bcells_get _ hi, bcells_get _ hi]
    unfold updI
    by_cases hk : k = i
    · rw [if_pos hk, if_pos (by omega), if_pos hk.symm]
    · rw [if_neg hk, if_neg (Ne.symm hk)]
  · rw [List.getElem?_eq_none (l := bcells X) (by rw [bcells_len]; omega), List.getElem?_eq_none (l := bcells (updI X k v)) (by rw [bcells_len]; omega)]
    by_cases hk : k = i
    · rw [if_pos hk, if_neg (by omega)]
    · rw [if_neg hk]
theorem bcells_one (X : Nat → Int) : ∀ v ∈ bcells X, v.oneCell' = true := fun v hv => by
  unfold bcells at hv
  obtain ⟨i, _, rfl⟩ := List.mem_map.1 hv
  rfl
theorem bcells_zero : Try.zeroCells88 = (bcells fun _ => 0).toArray := by kernel_rfl
theorem info280 : (Try.prog.info? 88).map (·.size) = some (bcells fun _ => 0).toArray.size := by kernel_rfl
theorem info280' (X : Nat → Int) : (Try.prog.info? 88).map (·.size) = some (bcells X).toArray.size := by
  rw [info280]; simp [bcells]
def BigPost (X : Nat → Int) (w : World) (en : Ending) (w' : World) : Prop := en = .returned (.agg (bcells X).toArray) ∧ Below w.heap.size w w'

theorem bcells_setl (X : Nat → Int) (k : Nat) (v : Int) : (bcells X).set k (.int .i64 v) = bcells (updI X k v) := by
  have h := bcells_set X k v
  rw [List.setIfInBounds_toArray] at h
  exact (congrArg Array.toList h)

set_option maxHeartbeats 2000000 in
theorem digit_any (X : Nat → Int) (k : Nat) (d : Int) (neg : Bool) (w : World) (hk : k < 280) (hX : -2305843009213693952 ≤ X k ∧ X k ≤ 2305843009213693952) (hd : -2305843009213693952 ≤ d ∧ d ≤ 2305843009213693952) :
    Calls Try.prog 112 #[.agg (bcells X).toArray, .int .i64 k, .int .i64 d, .bool neg] w (BigPost (updI X k (X k + (if neg then -d else d))) w) := by
  have hk1 : (k : Int) < 280 := by omega
  have hk0 : (0 : Int) ≤ (k : Int) := by omega
  have gk := bcells_get X hk
  obtain ⟨x, hx⟩ : ∃ x, x = X k := ⟨_, rfl⟩
  rw [← hx] at gk hX ⊢
  obtain ⟨v, hv⟩ : ∃ v, v = x + (if neg then -d else d) := ⟨_, rfl⟩
  rw [← hv]
  have HV := Lib.hid hv
  have hg : (bcells X).toArray[k]? = some (.int .i64 x) := by rw [List.getElem?_toArray]; exact gk
  clear gk hx hv
  have hvb : -9223372036854775808 ≤ v ∧ v ≤ 9223372036854775807 := by rw [HV.out]; split <;> omega
  obtain ⟨hvb1, hvb2⟩ := hvb
  have HBW : ∀ o1 o2 : Obj, Below w.heap.size w (((w.alloc o1).alloc o2).setRow (w.heap.size + 1) (bcells (updI X k v)).toArray) := fun o1 o2 => below_setRow (((Below.refl _ _).alloc (Nat.le_refl _) _).alloc (by simp) _) (by omega)
  have HBW := Lib.hid HBW
  cases neg
  · have hv : x + d = v := by rw [HV.out]; rfl
    go_enter Try.func112, Try.ntmps112
    go_wp2_with (first
      | (with_reducible refine wpList_load_row rfl 88 _ rfl w.heap.size rfl 88 (bcells (updI X k v)).toArray (0, 0) _ (by rw [heap_alloc2_old, bcells_setl]) Try.underlying88 rfl (info280' _) ?_)
      | (with_reducible refine wpList_store_row rfl 88 _ _ rfl (w.heap.size + 1) (bcells (updI X k v)).toArray rfl rfl 88 (bcells fun _ => 0).toArray (by rw [heap_alloc2_new, bcells_zero]) (info280' _) (by simp [bcells]) (all_oneCell_toArray (bcells_one _)) ?_))
    refine bodyPost_ret (results_cell_row Try.results112 _ _ (w.heap.size + 1) 88 (bcells (updI X k v)).toArray (0, 0) _ rfl
      (setRow_heap _ _ (bcells fun _ => 0).toArray _ _ _ (by rw [heap_alloc2_new, bcells_zero])) Try.underlying88 rfl (info280' _)) rfl ⟨rfl, HBW.out _ _⟩
  · have hv : x + -d = v := by rw [HV.out]; rfl
    have hvs : x - d = v := by omega
    go_enter Try.func112, Try.ntmps112
    go_wp2_with (first
      | (with_reducible refine wpList_load_row rfl 88 _ rfl w.heap.size rfl 88 (bcells (updI X k v)).toArray (0, 0) _ (by rw [heap_alloc2_old, bcells_setl]) Try.underlying88 rfl (info280' _) ?_)
      | (with_reducible refine wpList_store_row rfl 88 _ _ rfl (w.heap.size + 1) (bcells (updI X k v)).toArray rfl rfl 88 (bcells fun _ => 0).toArray (by rw [heap_alloc2_new, bcells_zero]) (info280' _) (by simp [bcells]) (all_oneCell_toArray (bcells_one _)) ?_))
    refine bodyPost_ret (results_cell_row Try.results112 _ _ (w.heap.size + 1) 88 (bcells (updI X k v)).toArray (0, 0) _ rfl
      (setRow_heap _ _ (bcells fun _ => 0).toArray _ _ _ (by rw [heap_alloc2_new, bcells_zero])) Try.underlying88 rfl (info280' _)) rfl ⟨rfl, HBW.out _ _⟩



set_option maxHeartbeats 4000000 in
theorem plus_any (X : Nat → Int) (m at' : Nat) (neg : Bool) (b : Int) (w : World) (hm : m < W64) (hat : at' < 4400) (hb : 0 ≤ b ∧ b ≤ 1152921504606846976) (hX : ∀ i, i < 280 → -b ≤ X i ∧ X i ≤ b) :
    Calls Try.prog 84 #[.agg (bcells X).toArray, .int .u64 m, .int .i64 ((at' : Int) - 2200), .bool neg] w (BigPost (plusD X m (at' % 16) (at' / 16) neg 5) w) := by
  have hs : at' % 16 < 16 := by omega
  obtain ⟨s, hs1⟩ : ∃ s, s = at' % 16 := ⟨_, rfl⟩
  obtain ⟨k, hk1⟩ : ∃ k, k = at' / 16 := ⟨_, rfl⟩
  rw [← hs1] at hs
  rw [← hs1, ← hk1]
  have hk : k + 5 ≤ 280 := by omega
  have e1 : (at' : Int) / 16 = (k : Int) := by omega
  have e2 : (at' : Int) % 16 = (s : Int) := by omega
  have ha0 : (0 : Int) ≤ (at' : Int) := by omega
  have HD := Lib.hid fun (j : Nat) (w : World) (hj : j < 5) => digit_any (plusD X m s k neg j) (k + j) ((dig5 m s j : Nat) : Int) neg w (by omega) (by
    have := plusD_bd (neg := neg) (k := k) (j := j) (i := k + j) hm hs (hX (k + j) (by omega)); omega) (by have := dig5_lt (i := j) hm hs; omega)
  have HST : Hid (∀ j, updI (plusD X m s k neg j) (k + j) (plusD X m s k neg j (k + j) + (if neg then -((dig5 m s j : Nat) : Int) else ((dig5 m s j : Nat) : Int))) = plusD X m s k neg (j + 1)) := Lib.hid fun j => funext fun i => by
    have := plusD_step X m s k neg j i
    unfold sgn at this; exact this
  have hlow : IntKind.u64.wrap ((m : Int) * 2 ^ s) = ((m * 2 ^ s % W64 : Nat) : Int) := by
    rw [show ((m : Int) * 2 ^ s) = ((m * 2 ^ s : Nat) : Int) by rw [Int.natCast_mul, Int.natCast_pow]; rfl]; exact wrapM _
  have hhigh : (m : Int) / 2 ^ (64 - s) = ((m / 2 ^ (64 - s) : Nat) : Int) := by rw [Int.natCast_ediv, Int.natCast_pow]; rfl
  have hd4 : dig5 m s 4 = m / 2 ^ (64 - s) := rfl
  have hdj : ∀ j, j < 4 → dig5 m s j = m * 2 ^ s % W64 / 2 ^ (16 * j) % 65536 := fun j hj => by unfold dig5; rw [if_pos hj]
  have hh0 : s = 0 → dig5 m s 4 = 0 := fun h => by rw [hd4, h, Nat.sub_zero]; exact Nat.div_eq_of_lt hm
  obtain ⟨low, hlw⟩ : ∃ l, l = m * 2 ^ s % W64 := ⟨_, rfl⟩
  have hll : low < 18446744073709551616 := by rw [hlw]; exact Nat.mod_lt _ w64_pos
  rw [← hlw] at hlow hdj
  rw [← hd4] at hhigh
  have h4l := dig5_lt (i := 4) hm hs
  obtain ⟨hi, hhi⟩ : ∃ l, l = dig5 m s 4 := ⟨_, rfl⟩
  rw [← hhi] at hhigh hh0 h4l
  have HHI := Lib.hid hhi
  have HDJ := Lib.hid hdj
  have HH0 := Lib.hid hh0
  clear hlw hd4 hdj hhi hh0 hs1 hk1 hX
  have hk0 : (0 : Int) ≤ (k : Int) := by omega
  have hs0 : (0 : Int) ≤ (s : Int) := by omega
  by_cases hsp : s = 0
  · have hh := HH0.out hsp
    have HHI := Lib.hid (HHI.out.symm.trans hh).symm
    have HSP := Lib.hid hsp
    have hsp' : ¬ (0 : Int) < (s : Int) := by omega
    clear hhigh h4l hh hsp
    go_enter Try.func84, Try.ntmps84
    go_wp2_with fail
    clear e1 e2
    go_loopw [14] (fun t wr => ∃ j : Nat, t = .int .i64 j ∧ j ≤ 4 ∧ wr.heap[w.heap.size]? = some (.cells (bcells (plusD X m s k neg j)).toArray 88 (0, 0)) ∧ wr.heap[w.heap.size + 1]? = some (.cells (bcells fun _ => 0).toArray 88 (0, 0)) ∧ Below w.heap.size w wr ∧ w.heap.size + 2 ≤ wr.heap.size) (fun t _ => 4 - (intOf t).toNat)
    case atStart =>
      refine ⟨0, rfl, by omega, ?_, ?_, ((Below.refl _ _).alloc (Nat.le_refl _) _).alloc (by simp) _, by simp⟩
      · rw [heap_alloc2_old, bcells_congr (X := plusD X m s k neg 0) (Y := X) (fun i hi => by unfold plusD; rw [if_neg (by omega)]; omega)]
      · rw [heap_alloc2_new, bcells_zero]
    case round =>
      obtain ⟨j, rfl, hj, ha, hz, hw, hsz⟩ := hrel
      have HA := Lib.hid ha; have HZ := Lib.hid hz; have BW := Lib.hid hw
      clear ha hz hw
      obtain rfl | rfl | rfl | rfl | rfl : j = 0 ∨ j = 1 ∨ j = 2 ∨ j = 3 ∨ j = 4 := by omega
      ·
        have h3 : (0 : Int) < 4 := by omega
        have hand : bits .and .u64 ((low : Int)) 65535 = ((dig5 m s 0 : Nat) : Int) := by
          rw [HDJ.out 0 (by omega)]
          have e := and_mask (b := low / 2 ^ (16 * 0)) (n := 16) (Nat.lt_of_le_of_lt (Nat.div_le_self _ _) hll) (by omega)
          rw [show (2 : Nat) ^ (16 * 0) = 1 from rfl, Nat.div_one] at e ⊢
          exact e
        have hdl := dig5_lt (i := 0) hm hs
        have HDj := Lib.hid (HD.out 0 wr (by omega))
        rw [HST.out 0] at HDj
        obtain ⟨dg, hdg⟩ : ∃ x, x = dig5 m s 0 := ⟨_, rfl⟩
        rw [← hdg] at hand HDj hdl
        clear hdg
        go_wp2_with (with_reducible refine wpList_load_row rfl 88 _ rfl w.heap.size rfl 88 (bcells (plusD X m s k neg 0)).toArray (0, 0) _ HA.out Try.underlying88 rfl (info280' _) ?_)
        refine HDj.out.mono ?_
        rintro en wn hp
        obtain ⟨rfl, hbn⟩ := hp
        have zz := BW.out.size
        have HA1 := Lib.hid ((hbn.block w.heap.size (by omega)).trans HA.out)
        have HZ1 := Lib.hid ((hbn.block (w.heap.size + 1) (by omega)).trans HZ.out)
        have BW1 := Lib.hid (BW.out.trans (hbn.mono zz))
        have hsz1 : w.heap.size + 2 ≤ wn.heap.size := Nat.le_trans hsz hbn.size
        clear hbn HDj
        go_wp2_with (with_reducible refine wpList_store_row rfl 88 _ _ rfl w.heap.size (bcells (plusD X m s k neg (0 + 1))).toArray rfl rfl 88 (bcells (plusD X m s k neg 0)).toArray HA1.out (info280' _) (by simp [bcells]) (all_oneCell_toArray (bcells_one _)) ?_)
        have HA2 := Lib.hid (setRow_heap wn w.heap.size _ (bcells (plusD X m s k neg (0 + 1))).toArray _ _ HA1.out)
        have HZ2 := Lib.hid ((setRow_other wn w.heap.size (w.heap.size + 1) (bcells (plusD X m s k neg (0 + 1))).toArray (by omega)).trans HZ1.out)
        have BW2 := Lib.hid (below_setRow (cs := (bcells (plusD X m s k neg (0 + 1))).toArray) BW1.out (Nat.le_refl _))
        have hsz2 : w.heap.size + 2 ≤ (wn.setRow w.heap.size (bcells (plusD X m s k neg (0 + 1))).toArray).heap.size := by rw [setRow_size]; exact hsz1
        go_roundw
        case rel => exact ⟨0 + 1, by go_num, by omega, HA2.out, HZ2.out, BW2.out, hsz2⟩
        case measure => (simp [intOf] <;> omega)
      ·
        have h3 : (1 : Int) < 4 := by omega
        have hand : bits .and .u64 ((low : Int) / 65536) 65535 = ((dig5 m s 1 : Nat) : Int) := by
          rw [HDJ.out 1 (by omega)]
          have e := and_mask (b := low / 2 ^ (16 * 1)) (n := 16) (Nat.lt_of_le_of_lt (Nat.div_le_self _ _) hll) (by omega)
          skip
          exact e
        have hdl := dig5_lt (i := 1) hm hs
        have HDj := Lib.hid (HD.out 1 wr (by omega))
        rw [HST.out 1] at HDj
        obtain ⟨dg, hdg⟩ : ∃ x, x = dig5 m s 1 := ⟨_, rfl⟩
        rw [← hdg] at hand HDj hdl
        clear hdg
        go_wp2_with (with_reducible refine wpList_load_row rfl 88 _ rfl w.heap.size rfl 88 (bcells (plusD X m s k neg 1)).toArray (0, 0) _ HA.out Try.underlying88 rfl (info280' _) ?_)
        refine HDj.out.mono ?_
        rintro en wn hp
        obtain ⟨rfl, hbn⟩ := hp
        have zz := BW.out.size
        have HA1 := Lib.hid ((hbn.block w.heap.size (by omega)).trans HA.out)
        have HZ1 := Lib.hid ((hbn.block (w.heap.size + 1) (by omega)).trans HZ.out)
        have BW1 := Lib.hid (BW.out.trans (hbn.mono zz))
        have hsz1 : w.heap.size + 2 ≤ wn.heap.size := Nat.le_trans hsz hbn.size
        clear hbn HDj
        go_wp2_with (with_reducible refine wpList_store_row rfl 88 _ _ rfl w.heap.size (bcells (plusD X m s k neg (1 + 1))).toArray rfl rfl 88 (bcells (plusD X m s k neg 1)).toArray HA1.out (info280' _) (by simp [bcells]) (all_oneCell_toArray (bcells_one _)) ?_)
        have HA2 := Lib.hid (setRow_heap wn w.heap.size _ (bcells (plusD X m s k neg (1 + 1))).toArray _ _ HA1.out)
        have HZ2 := Lib.hid ((setRow_other wn w.heap.size (w.heap.size + 1) (bcells (plusD X m s k neg (1 + 1))).toArray (by omega)).trans HZ1.out)
        have BW2 := Lib.hid (below_setRow (cs := (bcells (plusD X m s k neg (1 + 1))).toArray) BW1.out (Nat.le_refl _))
        have hsz2 : w.heap.size + 2 ≤ (wn.setRow w.heap.size (bcells (plusD X m s k neg (1 + 1))).toArray).heap.size := by rw [setRow_size]; exact hsz1
        go_roundw
        case rel => exact ⟨1 + 1, by go_num, by omega, HA2.out, HZ2.out, BW2.out, hsz2⟩
        case measure => (simp [intOf] <;> omega)
      ·
        have h3 : (2 : Int) < 4 := by omega
        have hand : bits .and .u64 ((low : Int) / 4294967296) 65535 = ((dig5 m s 2 : Nat) : Int) := by
          rw [HDJ.out 2 (by omega)]
          have e := and_mask (b := low / 2 ^ (16 * 2)) (n := 16) (Nat.lt_of_le_of_lt (Nat.div_le_self _ _) hll) (by omega)
          skip
          exact e
        have hdl := dig5_lt (i := 2) hm hs
        have HDj := Lib.hid (HD.out 2 wr (by omega))
        rw [HST.out 2] at HDj
        obtain ⟨dg, hdg⟩ : ∃ x, x = dig5 m s 2 := ⟨_, rfl⟩
        rw [← hdg] at hand HDj hdl
        clear hdg
        go_wp2_with (with_reducible refine wpList_load_row rfl 88 _ rfl w.heap.size rfl 88 (bcells (plusD X m s k neg 2)).toArray (0, 0) _ HA.out Try.underlying88 rfl (info280' _) ?_)
        refine HDj.out.mono ?_
        rintro en wn hp
        obtain ⟨rfl, hbn⟩ := hp
        have zz := BW.out.size
        have HA1 := Lib.hid ((hbn.block w.heap.size (by omega)).trans HA.out)
        have HZ1 := Lib.hid ((hbn.block (w.heap.size + 1) (by omega)).trans HZ.out)
        have BW1 := Lib.hid (BW.out.trans (hbn.mono zz))
        have hsz1 : w.heap.size + 2 ≤ wn.heap.size := Nat.le_trans hsz hbn.size
        clear hbn HDj
        go_wp2_with (with_reducible refine wpList_store_row rfl 88 _ _ rfl w.heap.size (bcells (plusD X m s k neg (2 + 1))).toArray rfl rfl 88 (bcells (plusD X m s k neg 2)).toArray HA1.out (info280' _) (by simp [bcells]) (all_oneCell_toArray (bcells_one _)) ?_)
        have HA2 := Lib.hid (setRow_heap wn w.heap.size _ (bcells (plusD X m s k neg (2 + 1))).toArray _ _ HA1.out)
        have HZ2 := Lib.hid ((setRow_other wn w.heap.size (w.heap.size + 1) (bcells (plusD X m s k neg (2 + 1))).toArray (by omega)).trans HZ1.out)
        have BW2 := Lib.hid (below_setRow (cs := (bcells (plusD X m s k neg (2 + 1))).toArray) BW1.out (Nat.le_refl _))
        have hsz2 : w.heap.size + 2 ≤ (wn.setRow w.heap.size (bcells (plusD X m s k neg (2 + 1))).toArray).heap.size := by rw [setRow_size]; exact hsz1
        go_roundw
        case rel => exact ⟨2 + 1, by go_num, by omega, HA2.out, HZ2.out, BW2.out, hsz2⟩
        case measure => (simp [intOf] <;> omega)
      ·
        have h3 : (3 : Int) < 4 := by omega
        have hand : bits .and .u64 ((low : Int) / 281474976710656) 65535 = ((dig5 m s 3 : Nat) : Int) := by
          rw [HDJ.out 3 (by omega)]
          have e := and_mask (b := low / 2 ^ (16 * 3)) (n := 16) (Nat.lt_of_le_of_lt (Nat.div_le_self _ _) hll) (by omega)
          skip
          exact e
        have hdl := dig5_lt (i := 3) hm hs
        have HDj := Lib.hid (HD.out 3 wr (by omega))
        rw [HST.out 3] at HDj
        obtain ⟨dg, hdg⟩ : ∃ x, x = dig5 m s 3 := ⟨_, rfl⟩
        rw [← hdg] at hand HDj hdl
        clear hdg
        go_wp2_with (with_reducible refine wpList_load_row rfl 88 _ rfl w.heap.size rfl 88 (bcells (plusD X m s k neg 3)).toArray (0, 0) _ HA.out Try.underlying88 rfl (info280' _) ?_)
        refine HDj.out.mono ?_
        rintro en wn hp
        obtain ⟨rfl, hbn⟩ := hp
        have zz := BW.out.size
        have HA1 := Lib.hid ((hbn.block w.heap.size (by omega)).trans HA.out)
        have HZ1 := Lib.hid ((hbn.block (w.heap.size + 1) (by omega)).trans HZ.out)
        have BW1 := Lib.hid (BW.out.trans (hbn.mono zz))
        have hsz1 : w.heap.size + 2 ≤ wn.heap.size := Nat.le_trans hsz hbn.size
        clear hbn HDj
        go_wp2_with (with_reducible refine wpList_store_row rfl 88 _ _ rfl w.heap.size (bcells (plusD X m s k neg (3 + 1))).toArray rfl rfl 88 (bcells (plusD X m s k neg 3)).toArray HA1.out (info280' _) (by simp [bcells]) (all_oneCell_toArray (bcells_one _)) ?_)
        have HA2 := Lib.hid (setRow_heap wn w.heap.size _ (bcells (plusD X m s k neg (3 + 1))).toArray _ _ HA1.out)
        have HZ2 := Lib.hid ((setRow_other wn w.heap.size (w.heap.size + 1) (bcells (plusD X m s k neg (3 + 1))).toArray (by omega)).trans HZ1.out)
        have BW2 := Lib.hid (below_setRow (cs := (bcells (plusD X m s k neg (3 + 1))).toArray) BW1.out (Nat.le_refl _))
        have hsz2 : w.heap.size + 2 ≤ (wn.setRow w.heap.size (bcells (plusD X m s k neg (3 + 1))).toArray).heap.size := by rw [setRow_size]; exact hsz1
        go_roundw
        case rel => exact ⟨3 + 1, by go_num, by omega, HA2.out, HZ2.out, BW2.out, hsz2⟩
        case measure => (simp [intOf] <;> omega)
      · have HDj := Lib.hid (HD.out 4 wr (by omega))
        rw [HST.out 4, ← HHI.out] at HDj
        go_wp2_with (with_reducible refine wpList_load_row rfl 88 _ rfl w.heap.size rfl 88 (bcells (plusD X m s k neg 4)).toArray (0, 0) _ HA.out Try.underlying88 rfl (info280' _) ?_)
        refine HDj.out.mono ?_
        rintro en wn hp
        obtain ⟨rfl, hbn⟩ := hp
        have zz := BW.out.size
        have HZ1 := Lib.hid ((hbn.block (w.heap.size + 1) (by omega)).trans HZ.out)
        have BW1 := Lib.hid (BW.out.trans (hbn.mono zz))
        clear hbn HDj
        go_wp2_with (with_reducible refine wpList_store_row rfl 88 _ _ rfl (w.heap.size + 1) (bcells (plusD X m s k neg (4 + 1))).toArray rfl rfl 88 (bcells fun _ => 0).toArray HZ1.out (info280' _) (by simp [bcells]) (all_oneCell_toArray (bcells_one _)) ?_)
        refine bodyPost_ret (results_cell_row Try.results84 _ _ (w.heap.size + 1) 88 (bcells (plusD X m s k neg (4 + 1))).toArray (0, 0) _ rfl
          (setRow_heap _ _ (bcells fun _ => 0).toArray _ _ _ HZ1.out) Try.underlying88 rfl (info280' _)) rfl ⟨rfl, below_setRow BW1.out (by omega)⟩
  · have hsp' : (0 : Int) < (s : Int) := by omega
    have hpos : 0 < s := by omega
    clear hsp
    go_enter Try.func84, Try.ntmps84
    go_wp2_with fail
    clear e1 e2
    go_loopw [14] (fun t wr => ∃ j : Nat, t = .int .i64 j ∧ j ≤ 4 ∧ wr.heap[w.heap.size]? = some (.cells (bcells (plusD X m s k neg j)).toArray 88 (0, 0)) ∧ wr.heap[w.heap.size + 1]? = some (.cells (bcells fun _ => 0).toArray 88 (0, 0)) ∧ Below w.heap.size w wr ∧ w.heap.size + 2 ≤ wr.heap.size) (fun t _ => 4 - (intOf t).toNat)
    case atStart =>
      refine ⟨0, rfl, by omega, ?_, ?_, ((Below.refl _ _).alloc (Nat.le_refl _) _).alloc (by simp) _, by simp⟩
      · rw [heap_alloc2_old, bcells_congr (X := plusD X m s k neg 0) (Y := X) (fun i hi => by unfold plusD; rw [if_neg (by omega)]; omega)]
      · rw [heap_alloc2_new, bcells_zero]
    case round =>
      obtain ⟨j, rfl, hj, ha, hz, hw, hsz⟩ := hrel
      have HA := Lib.hid ha; have HZ := Lib.hid hz; have BW := Lib.hid hw
      clear ha hz hw
      obtain rfl | rfl | rfl | rfl | rfl : j = 0 ∨ j = 1 ∨ j = 2 ∨ j = 3 ∨ j = 4 := by omega
      ·
        have h3 : (0 : Int) < 4 := by omega
        have hand : bits .and .u64 ((low : Int)) 65535 = ((dig5 m s 0 : Nat) : Int) := by
          rw [HDJ.out 0 (by omega)]
          have e := and_mask (b := low / 2 ^ (16 * 0)) (n := 16) (Nat.lt_of_le_of_lt (Nat.div_le_self _ _) hll) (by omega)
          rw [show (2 : Nat) ^ (16 * 0) = 1 from rfl, Nat.div_one] at e ⊢
          exact e
        have hdl := dig5_lt (i := 0) hm hs
        have HDj := Lib.hid (HD.out 0 wr (by omega))
        rw [HST.out 0] at HDj
        obtain ⟨dg, hdg⟩ : ∃ x, x = dig5 m s 0 := ⟨_, rfl⟩
        rw [← hdg] at hand HDj hdl
        clear hdg
        go_wp2_with (with_reducible refine wpList_load_row rfl 88 _ rfl w.heap.size rfl 88 (bcells (plusD X m s k neg 0)).toArray (0, 0) _ HA.out Try.underlying88 rfl (info280' _) ?_)
        refine HDj.out.mono ?_
        rintro en wn hp
        obtain ⟨rfl, hbn⟩ := hp
        have zz := BW.out.size
        have HA1 := Lib.hid ((hbn.block w.heap.size (by omega)).trans HA.out)
        have HZ1 := Lib.hid ((hbn.block (w.heap.size + 1) (by omega)).trans HZ.out)
        have BW1 := Lib.hid (BW.out.trans (hbn.mono zz))
        have hsz1 : w.heap.size + 2 ≤ wn.heap.size := Nat.le_trans hsz hbn.size
        clear hbn HDj
        go_wp2_with (with_reducible refine wpList_store_row rfl 88 _ _ rfl w.heap.size (bcells (plusD X m s k neg (0 + 1))).toArray rfl rfl 88 (bcells (plusD X m s k neg 0)).toArray HA1.out (info280' _) (by simp [bcells]) (all_oneCell_toArray (bcells_one _)) ?_)
        have HA2 := Lib.hid (setRow_heap wn w.heap.size _ (bcells (plusD X m s k neg (0 + 1))).toArray _ _ HA1.out)
        have HZ2 := Lib.hid ((setRow_other wn w.heap.size (w.heap.size + 1) (bcells (plusD X m s k neg (0 + 1))).toArray (by omega)).trans HZ1.out)
        have BW2 := Lib.hid (below_setRow (cs := (bcells (plusD X m s k neg (0 + 1))).toArray) BW1.out (Nat.le_refl _))
        have hsz2 : w.heap.size + 2 ≤ (wn.setRow w.heap.size (bcells (plusD X m s k neg (0 + 1))).toArray).heap.size := by rw [setRow_size]; exact hsz1
        go_roundw
        case rel => exact ⟨0 + 1, by go_num, by omega, HA2.out, HZ2.out, BW2.out, hsz2⟩
        case measure => (simp [intOf] <;> omega)
      ·
        have h3 : (1 : Int) < 4 := by omega
        have hand : bits .and .u64 ((low : Int) / 65536) 65535 = ((dig5 m s 1 : Nat) : Int) := by
          rw [HDJ.out 1 (by omega)]
          have e := and_mask (b := low / 2 ^ (16 * 1)) (n := 16) (Nat.lt_of_le_of_lt (Nat.div_le_self _ _) hll) (by omega)
          skip
          exact e
        have hdl := dig5_lt (i := 1) hm hs
        have HDj := Lib.hid (HD.out 1 wr (by omega))
        rw [HST.out 1] at HDj
        obtain ⟨dg, hdg⟩ : ∃ x, x = dig5 m s 1 := ⟨_, rfl⟩
        rw [← hdg] at hand HDj hdl
        clear hdg
        go_wp2_with (with_reducible refine wpList_load_row rfl 88 _ rfl w.heap.size rfl 88 (bcells (plusD X m s k neg 1)).toArray (0, 0) _ HA.out Try.underlying88 rfl (info280' _) ?_)
        refine HDj.out.mono ?_
        rintro en wn hp
        obtain ⟨rfl, hbn⟩ := hp
        have zz := BW.out.size
        have HA1 := Lib.hid ((hbn.block w.heap.size (by omega)).trans HA.out)
        have HZ1 := Lib.hid ((hbn.block (w.heap.size + 1) (by omega)).trans HZ.out)
        have BW1 := Lib.hid (BW.out.trans (hbn.mono zz))
        have hsz1 : w.heap.size + 2 ≤ wn.heap.size := Nat.le_trans hsz hbn.size
        clear hbn HDj
        go_wp2_with (with_reducible refine wpList_store_row rfl 88 _ _ rfl w.heap.size (bcells (plusD X m s k neg (1 + 1))).toArray rfl rfl 88 (bcells (plusD X m s k neg 1)).toArray HA1.out (info280' _) (by simp [bcells]) (all_oneCell_toArray (bcells_one _)) ?_)
        have HA2 := Lib.hid (setRow_heap wn w.heap.size _ (bcells (plusD X m s k neg (1 + 1))).toArray _ _ HA1.out)
        have HZ2 := Lib.hid ((setRow_other wn w.heap.size (w.heap.size + 1) (bcells (plusD X m s k neg (1 + 1))).toArray (by omega)).trans HZ1.out)
        have BW2 := Lib.hid (below_setRow (cs := (bcells (plusD X m s k neg (1 + 1))).toArray) BW1.out (Nat.le_refl _))
        have hsz2 : w.heap.size + 2 ≤ (wn.setRow w.heap.size (bcells (plusD X m s k neg (1 + 1))).toArray).heap.size := by rw [setRow_size]; exact hsz1
        go_roundw
        case rel => exact ⟨1 + 1, by go_num, by omega, HA2.out, HZ2.out, BW2.out, hsz2⟩
        case measure => (simp [intOf] <;> omega)
      ·
        have h3 : (2 : Int) < 4 := by omega
        have hand : bits .and .u64 ((low : Int) / 4294967296) 65535 = ((dig5 m s 2 : Nat) : Int) := by
          rw [HDJ.out 2 (by omega)]
          have e := and_mask (b := low / 2 ^ (16 * 2)) (n := 16) (Nat.lt_of_le_of_lt (Nat.div_le_self _ _) hll) (by omega)
          skip
          exact e
        have hdl := dig5_lt (i := 2) hm hs
        have HDj := Lib.hid (HD.out 2 wr (by omega))
        rw [HST.out 2] at HDj
        obtain ⟨dg, hdg⟩ : ∃ x, x = dig5 m s 2 := ⟨_, rfl⟩
        rw [← hdg] at hand HDj hdl
        clear hdg
        go_wp2_with (with_reducible refine wpList_load_row rfl 88 _ rfl w.heap.size rfl 88 (bcells (plusD X m s k neg 2)).toArray (0, 0) _ HA.out Try.underlying88 rfl (info280' _) ?_)
        refine HDj.out.mono ?_
        rintro en wn hp
        obtain ⟨rfl, hbn⟩ := hp
        have zz := BW.out.size
        have HA1 := Lib.hid ((hbn.block w.heap.size (by omega)).trans HA.out)
        have HZ1 := Lib.hid ((hbn.block (w.heap.size + 1) (by omega)).trans HZ.out)
        have BW1 := Lib.hid (BW.out.trans (hbn.mono zz))
        have hsz1 : w.heap.size + 2 ≤ wn.heap.size := Nat.le_trans hsz hbn.size
        clear hbn HDj
        go_wp2_with (with_reducible refine wpList_store_row rfl 88 _ _ rfl w.heap.size (bcells (plusD X m s k neg (2 + 1))).toArray rfl rfl 88 (bcells (plusD X m s k neg 2)).toArray HA1.out (info280' _) (by simp [bcells]) (all_oneCell_toArray (bcells_one _)) ?_)
        have HA2 := Lib.hid (setRow_heap wn w.heap.size _ (bcells (plusD X m s k neg (2 + 1))).toArray _ _ HA1.out)
        have HZ2 := Lib.hid ((setRow_other wn w.heap.size (w.heap.size + 1) (bcells (plusD X m s k neg (2 + 1))).toArray (by omega)).trans HZ1.out)
        have BW2 := Lib.hid (below_setRow (cs := (bcells (plusD X m s k neg (2 + 1))).toArray) BW1.out (Nat.le_refl _))
        have hsz2 : w.heap.size + 2 ≤ (wn.setRow w.heap.size (bcells (plusD X m s k neg (2 + 1))).toArray).heap.size := by rw [setRow_size]; exact hsz1
        go_roundw
        case rel => exact ⟨2 + 1, by go_num, by omega, HA2.out, HZ2.out, BW2.out, hsz2⟩
        case measure => (simp [intOf] <;> omega)
      ·
        have h3 : (3 : Int) < 4 := by omega
        have hand : bits .and .u64 ((low : Int) / 281474976710656) 65535 = ((dig5 m s 3 : Nat) : Int) := by
          rw [HDJ.out 3 (by omega)]
          have e := and_mask (b := low / 2 ^ (16 * 3)) (n := 16) (Nat.lt_of_le_of_lt (Nat.div_le_self _ _) hll) (by omega)
          skip
          exact e
        have hdl := dig5_lt (i := 3) hm hs
        have HDj := Lib.hid (HD.out 3 wr (by omega))
        rw [HST.out 3] at HDj
        obtain ⟨dg, hdg⟩ : ∃ x, x = dig5 m s 3 := ⟨_, rfl⟩
        rw [← hdg] at hand HDj hdl
        clear hdg
        go_wp2_with (with_reducible refine wpList_load_row rfl 88 _ rfl w.heap.size rfl 88 (bcells (plusD X m s k neg 3)).toArray (0, 0) _ HA.out Try.underlying88 rfl (info280' _) ?_)
        refine HDj.out.mono ?_
        rintro en wn hp
        obtain ⟨rfl, hbn⟩ := hp
        have zz := BW.out.size
        have HA1 := Lib.hid ((hbn.block w.heap.size (by omega)).trans HA.out)
        have HZ1 := Lib.hid ((hbn.block (w.heap.size + 1) (by omega)).trans HZ.out)
        have BW1 := Lib.hid (BW.out.trans (hbn.mono zz))
        have hsz1 : w.heap.size + 2 ≤ wn.heap.size := Nat.le_trans hsz hbn.size
        clear hbn HDj
        go_wp2_with (with_reducible refine wpList_store_row rfl 88 _ _ rfl w.heap.size (bcells (plusD X m s k neg (3 + 1))).toArray rfl rfl 88 (bcells (plusD X m s k neg 3)).toArray HA1.out (info280' _) (by simp [bcells]) (all_oneCell_toArray (bcells_one _)) ?_)
        have HA2 := Lib.hid (setRow_heap wn w.heap.size _ (bcells (plusD X m s k neg (3 + 1))).toArray _ _ HA1.out)
        have HZ2 := Lib.hid ((setRow_other wn w.heap.size (w.heap.size + 1) (bcells (plusD X m s k neg (3 + 1))).toArray (by omega)).trans HZ1.out)
        have BW2 := Lib.hid (below_setRow (cs := (bcells (plusD X m s k neg (3 + 1))).toArray) BW1.out (Nat.le_refl _))
        have hsz2 : w.heap.size + 2 ≤ (wn.setRow w.heap.size (bcells (plusD X m s k neg (3 + 1))).toArray).heap.size := by rw [setRow_size]; exact hsz1
        go_roundw
        case rel => exact ⟨3 + 1, by go_num, by omega, HA2.out, HZ2.out, BW2.out, hsz2⟩
        case measure => (simp [intOf] <;> omega)
      · have HDj := Lib.hid (HD.out 4 wr (by omega))
        rw [HST.out 4, ← HHI.out] at HDj
        go_wp2_with (with_reducible refine wpList_load_row rfl 88 _ rfl w.heap.size rfl 88 (bcells (plusD X m s k neg 4)).toArray (0, 0) _ HA.out Try.underlying88 rfl (info280' _) ?_)
        refine HDj.out.mono ?_
        rintro en wn hp
        obtain ⟨rfl, hbn⟩ := hp
        have zz := BW.out.size
        have HZ1 := Lib.hid ((hbn.block (w.heap.size + 1) (by omega)).trans HZ.out)
        have BW1 := Lib.hid (BW.out.trans (hbn.mono zz))
        clear hbn HDj
        go_wp2_with (with_reducible refine wpList_store_row rfl 88 _ _ rfl (w.heap.size + 1) (bcells (plusD X m s k neg (4 + 1))).toArray rfl rfl 88 (bcells fun _ => 0).toArray HZ1.out (info280' _) (by simp [bcells]) (all_oneCell_toArray (bcells_one _)) ?_)
        refine bodyPost_ret (results_cell_row Try.results84 _ _ (w.heap.size + 1) 88 (bcells (plusD X m s k neg (4 + 1))).toArray (0, 0) _ rfl
          (setRow_heap _ _ (bcells fun _ => 0).toArray _ _ _ HZ1.out) Try.underlying88 rfl (info280' _)) rfl ⟨rfl, below_setRow BW1.out (by omega)⟩
end Go.Proofs.Ytjakjnmfndfehaa

namespace Go.Pst
open Go Ieee
set_option linter.unusedVariables false
/-- Digits and the size of a number. -/
def IsDig (Y : Nat → Int) : Prop := ∀ i, i < 280 → 0 ≤ Y i ∧ Y i < 65536
def K28 : Nat := 280
def D28 : Nat := 65536 ^ K28
theorem settled_pos {X : Nat → Int} (h : ¬ stC X 280 < 0) (hs : (bv X 280).natAbs < D28) : 0 ≤ bv X 280 ∧ bv (stD X) 280 = bv X 280 := by
  have e : bv (stD X) 280 + stC X 280 * ((D28 : Nat) : Int) = bv X 280 := stD_val X K28
  have hb : 0 ≤ bv (stD X) 280 ∧ bv (stD X) 280 < ((D28 : Nat) : Int) := bv_nonneg (X := stD X) K28 fun i _ => stD_bd X i
  generalize bv (stD X) 280 = y at *
  generalize bv X 280 = s at *
  generalize stC X 280 = c at *
  have hp : 0 < D28 := by omega
  have hc : c = 0 := by
    refine Decidable.byContradiction fun hne => ?_
    have h1 : 1 * (D28 : Int) ≤ c * (D28 : Int) := Int.mul_le_mul_of_nonneg_right (by omega) (by omega)
    omega
  subst hc
  rw [Int.zero_mul] at e
  omega
theorem settled_neg {X : Nat → Int} (h : stC X 280 < 0) (hs : (bv X 280).natAbs < D28) : bv X 280 < 0 ∧ bv (ngD (stD X)) 280 = -bv X 280 := by
  have e : bv (stD X) 280 + stC X 280 * ((D28 : Nat) : Int) = bv X 280 := stD_val X K28
  have hb : 0 ≤ bv (stD X) 280 ∧ bv (stD X) 280 < ((D28 : Nat) : Int) := bv_nonneg (X := stD X) K28 fun i _ => stD_bd X i
  have e2 : bv (ngD (stD X)) 280 = ngB (stD X) 280 * ((D28 : Nat) : Int) - bv (stD X) 280 := ngD_val (stD X) K28
  have hb2 : 0 ≤ bv (ngD (stD X)) 280 ∧ bv (ngD (stD X)) 280 < ((D28 : Nat) : Int) := bv_nonneg (X := ngD (stD X)) K28 fun i _ => ngD_bd (stD_bd X i)
  have hg := ngB_bd (stD X) 280
  generalize bv (ngD (stD X)) 280 = z at *
  generalize ngB (stD X) 280 = g at *
  generalize bv (stD X) 280 = y at *
  generalize bv X 280 = s at *
  generalize stC X 280 = c at *
  have hp : 0 < D28 := by omega
  have hc : c = -1 := by
    refine Decidable.byContradiction fun hne => ?_
    have h1 : c * (D28 : Int) ≤ -2 * (D28 : Int) := Int.mul_le_mul_of_nonneg_right (by omega) (by omega)
    omega
  subst hc
  rw [Int.neg_mul, Int.one_mul] at e
  obtain rfl | rfl : g = 0 ∨ g = 1 := by omega
  · rw [Int.zero_mul] at e2; omega
  · rw [Int.one_mul] at e2; omega
theorem bv_zero_iff {Y : Nat → Int} : ∀ n, (∀ i, i < n → 0 ≤ Y i ∧ Y i < 65536) → (bv Y n = 0 ↔ ∀ i, i < n → Y i = 0)
  | 0, _ => by simp [bv]
  | n + 1, h => by
    have ih := bv_zero_iff n fun i hi => h i (by omega)
    have hb := bv_nonneg n fun i hi => h i (by omega)
    have hn := h n (by omega)
    have hp : (0 : Int) < ((65536 ^ n : Nat) : Int) := by have := Nat.pow_pos (n := n) (show 0 < 65536 by omega); omega
    have hm : 0 ≤ Y n * ((65536 ^ n : Nat) : Int) := Int.mul_nonneg hn.1 (Int.le_of_lt hp)
    unfold bv
    constructor
    · intro e i hi
      have h1 : bv Y n = 0 := by omega
      have h2 : Y n * ((65536 ^ n : Nat) : Int) = 0 := by omega
      by_cases hin : i = n
      · rw [hin]; exact (Int.mul_eq_zero.1 h2).resolve_right (by omega)
      · exact ih.1 h1 i (by omega)
    · intro hall
      rw [ih.2 fun i hi => hall i (by omega), hall n (by omega), Int.zero_mul]; rfl
end Go.Pst
namespace Go.Proofs.Ytjakjnmfndfehaa
open Go.RowKit Go.Pst
set_option maxRecDepth 20000
set_option linter.unusedSimpArgs false
set_option linter.unusedVariables false

theorem results_cell_tmp {P : Program} {fn : Func} {p t2 : Tmp} {ty : TypeId} (h : fn.results = #[.cell p ty, .tmp t2]) (tmps : Array Value) (w : World) (g : Nat) (t : TypeId) (cs : Array Value) (fr : Nat × Nat) (d : TypeDesc)
    (hp : tmps.getD p undef = .pointer (some ⟨g, 0, none⟩)) (hg : w.heap[g]? = some (.cells cs t fr))
    (hu : P.underlying ty = some d) (hd : (match d with | .struct _ | .array _ _ => true | _ => false) = true) (hi : (P.info? ty).map (·.size) = some cs.size) :
    (results fn tmps).run P w = .ok (.tuple #[.agg cs, tmps.getD t2 undef]) w := by
  have hp' : tmps[p]?.getD undef = .pointer (some ⟨g, 0, none⟩) := by simpa using hp
  simp [results, h, hp', asAddr, run_loadVar_row w g t ty cs fr d hg hu hd hi]

def mixI (X Y : Nat → Int) (k i : Nat) : Int := if i < k then Y i else X i
theorem mixI_set (X Y : Nat → Int) (k : Nat) : updI (mixI X Y k) k (Y k) = mixI X Y (k + 1) := funext fun i => by
  unfold updI mixI
  by_cases h : i = k
  · rw [if_pos h, h, if_pos (by omega)]
  · rw [if_neg h]
    by_cases h2 : i < k
    · rw [if_pos h2, if_pos (by omega)]
    · rw [if_neg h2, if_neg (by omega)]

def SetPost (S : Int) (w : World) (en : Ending) (w' : World) : Prop :=
  ∃ Y, en = .returned (.tuple #[.agg (bcells Y).toArray, .int .i64 (sgnI S)]) ∧ IsDig Y ∧ bv Y 280 = (S.natAbs : Int) ∧ Below w.heap.size w w'

theorem and16 (c : Int) (h1 : -9223372036854775808 ≤ c) (h2 : c < 9223372036854775808) : bits .and .i64 c 65535 = c % 65536 := by
  show IntKind.i64.wrap ((BitVec.ofInt 64 c &&& BitVec.ofInt 64 65535).toNat : Int) = _
  rw [BitVec.toNat_and, BitVec.toNat_ofInt, BitVec.toNat_ofInt]
  rw [show ((65535 : Int) % ((2 ^ 64 : Nat) : Int)).toNat = 65535 from by decide, show (65535 : Nat) = 2 ^ 16 - 1 from rfl, Nat.and_two_pow_sub_one_eq_mod, IntKind.wrap_i64]
  omega


set_option maxHeartbeats 4000000 in
theorem settled_any (X : Nat → Int) (b : Int) (w : World) (hb : 0 ≤ b ∧ b ≤ 1152921504606846976) (hX : ∀ i, i < 280 → -b ≤ X i ∧ X i ≤ b) (hs : (bv X 280).natAbs < D28) :
    Calls Try.prog 95 #[.agg (bcells X).toArray] w (SetPost (bv X 280) w) := by
  have HX := Lib.hid hX
  have HN := Lib.hid (settled_neg (X := X)); have HP := Lib.hid (settled_pos (X := X)); have HS := Lib.hid hs
  clear hX hs
  obtain ⟨S, hS⟩ : ∃ S, S = bv X 280 := ⟨_, rfl⟩
  rw [← hS] at HN HP HS ⊢
  clear hS
  go_enter Try.func95, Try.ntmps95
  go_wp2_with fail
  go_loopw [4, 5] (fun c t wr => ∃ k : Nat, t = .int .i64 k ∧ k ≤ 280 ∧ c = .int .i64 (stC X k) ∧ wr.heap[w.heap.size]? = some (.cells (bcells (mixI X (stD X) k)).toArray 88 (0, 0)) ∧ wr.heap[w.heap.size + 1]? = some (.cells (bcells fun _ => 0).toArray 88 (0, 0)) ∧
      Below w.heap.size w wr ∧ w.heap.size + 2 ≤ wr.heap.size) (fun _ t _ => 280 - (intOf t).toNat)
  case atStart =>
    refine ⟨0, rfl, by omega, rfl, ?_, ?_, ((Below.refl _ _).alloc (Nat.le_refl _) _).alloc (by simp) _, by simp⟩
    · rw [heap_alloc2_old]; rfl
    · rw [heap_alloc2_new, bcells_zero]
  case round =>
    obtain ⟨k, rfl, hk, rfl, ha, hz, hw, hsz⟩ := hrel
    have HA := Lib.hid ha; have HZ := Lib.hid hz; have BW := Lib.hid hw
    clear ha hz hw
    by_cases hk2 : k < 280
    · have h3 : (k : Int) < 280 := by omega
      have h0 : (0 : Int) ≤ (k : Int) := by omega
      have c1 := cell_of_row wr w.heap.size k _ _ _ HA.out
      have f1 := frozen_of_row wr w.heap.size k _ _ HA.out
      rw [List.getElem?_toArray, bcells_get _ hk2, show mixI X (stD X) k k = X k by unfold mixI; rw [if_neg (by omega)]] at c1
      have hcb := stC_bd hb.1 k fun i hi => HX.out i (by omega)
      have hxb := HX.out k hk2
      have hst : stC X (k + 1) = (stC X k + X k) / 65536 := rfl
      have hsd : stD X k = (stC X k + X k) % 65536 := rfl
      have HSET := Lib.hid (mixI_set X (stD X) k)
      obtain ⟨x, hx⟩ : ∃ x, x = X k := ⟨_, rfl⟩
      obtain ⟨c, hc⟩ : ∃ c, c = stC X k := ⟨_, rfl⟩
      rw [← hx] at c1 hxb hst hsd; rw [← hc] at hcb hst hsd ⊢
      have hand := and16 (c + x) (by omega) (by omega)
      have HST := Lib.hid hst; have HSD := Lib.hid hsd
      clear hx hc hst hsd
      have HA2 : Hid ((wr.setCell ⟨w.heap.size, k, none⟩ (.int .i64 ((c + x) % 65536))).heap[w.heap.size]? = some (.cells (bcells (mixI X (stD X) (k + 1))).toArray 88 (0, 0))) := Lib.hid (by
        rw [heap_setCell_same _ _ _ _ _ _ HA.out, bcells_set, ← HSET.out, HSD.out])
      have HZ2 : Hid ((wr.setCell ⟨w.heap.size, k, none⟩ (.int .i64 ((c + x) % 65536))).heap[w.heap.size + 1]? = some (.cells (bcells fun _ => 0).toArray 88 (0, 0))) := Lib.hid (by
        rw [heap_setCell_other _ _ _ _ (by show w.heap.size + 1 ≠ w.heap.size; omega)]; exact HZ.out)
      have BW2 := Lib.hid (BW.out.setCell (p := ⟨w.heap.size, k, none⟩) (Nat.le_refl _) (.int .i64 ((c + x) % 65536)))
      have hsz2 : w.heap.size + 2 ≤ (wr.setCell ⟨w.heap.size, k, none⟩ (.int .i64 ((c + x) % 65536))).heap.size := by rw [Reg.size_setCell]; exact hsz
      go_wp2_with fail
      go_roundw
      case rel => exact ⟨k + 1, by go_num, by omega, by rw [HST.out], HA2.out, HZ2.out, BW2.out, hsz2⟩
      case measure => (simp [intOf] <;> omega)
    · obtain rfl : k = 280 := by omega
      have hmx : bcells (mixI X (stD X) 280) = bcells (stD X) := bcells_congr fun i hi => by unfold mixI; rw [if_pos hi]
      rw [hmx] at HA
      clear hmx
      by_cases hc : stC X 280 < 0
      · obtain ⟨n1, n2⟩ := HN.out hc HS.out
        have HSN := Lib.hid n1; have HBV := Lib.hid n2
        clear n1 n2
        obtain ⟨c, ec⟩ : ∃ c, c = stC X 280 := ⟨_, rfl⟩
        rw [← ec] at hc ⊢
        clear ec HN HP
        go_wp2_with fail
        clear hc
        go_loopw [6, 7] (fun bo t wr => ∃ k : Nat, t = .int .i64 k ∧ k ≤ 280 ∧ bo = .int .i64 (ngB (stD X) k) ∧ wr.heap[w.heap.size]? = some (.cells (bcells (mixI (stD X) (ngD (stD X)) k)).toArray 88 (0, 0)) ∧ wr.heap[w.heap.size + 1]? = some (.cells (bcells fun _ => 0).toArray 88 (0, 0)) ∧
            Below w.heap.size w wr ∧ w.heap.size + 2 ≤ wr.heap.size) (fun _ t _ => 280 - (intOf t).toNat)
        case atStart => exact ⟨0, rfl, by omega, rfl, HA.out, HZ.out, BW.out, hsz⟩
        case round =>
          clear HA HZ BW hsz
          obtain ⟨k, rfl, hk, rfl, ha, hz, hw, hsz⟩ := hrel
          have HA := Lib.hid ha; have HZ := Lib.hid hz; have BW := Lib.hid hw
          clear ha hz hw
          by_cases hk2 : k < 280
          · have h3 : (k : Int) < 280 := by omega
            have h0 : (0 : Int) ≤ (k : Int) := by omega
            have c1 := cell_of_row wr w.heap.size k _ _ _ HA.out
            have f1 := frozen_of_row wr w.heap.size k _ _ HA.out
            rw [List.getElem?_toArray, bcells_get _ hk2, show mixI (stD X) (ngD (stD X)) k k = stD X k by unfold mixI; rw [if_neg (by omega)]] at c1
            have hgb := ngB_bd (stD X) k
            have hxb := stD_bd X k
            have hst : ngB (stD X) (k + 1) = if -stD X k - ngB (stD X) k < 0 then 1 else 0 := rfl
            have hsd : ngD (stD X) k = if -stD X k - ngB (stD X) k < 0 then -stD X k - ngB (stD X) k + 65536 else -stD X k - ngB (stD X) k := rfl
            have HSET := Lib.hid (mixI_set (stD X) (ngD (stD X)) k)
            obtain ⟨x, hx⟩ : ∃ x, x = stD X k := ⟨_, rfl⟩
            obtain ⟨g, hg⟩ : ∃ c, c = ngB (stD X) k := ⟨_, rfl⟩
            rw [← hx] at c1 hxb hst hsd; rw [← hg] at hgb hst hsd ⊢
            clear hx hg
            by_cases hd : -x - g < 0
            · rw [if_pos hd] at hst hsd
              obtain ⟨v, hv⟩ : ∃ v, v = -x - g + 65536 := ⟨_, rfl⟩
              rw [← hv] at hsd
              have hv' := hv.symm
              have HST := Lib.hid hst; have HSD := Lib.hid hsd
              clear hst hsd hv
              have hvb : -9223372036854775808 ≤ v ∧ v ≤ 9223372036854775807 := by omega
              obtain ⟨hvb1, hvb2⟩ := hvb
              have HA2 : Hid ((wr.setCell ⟨w.heap.size, k, none⟩ (.int .i64 v)).heap[w.heap.size]? = some (.cells (bcells (mixI (stD X) (ngD (stD X)) (k + 1))).toArray 88 (0, 0))) := Lib.hid (by
                rw [heap_setCell_same _ _ _ _ _ _ HA.out, bcells_set, ← HSET.out, HSD.out])
              have HZ2 : Hid ((wr.setCell ⟨w.heap.size, k, none⟩ (.int .i64 v)).heap[w.heap.size + 1]? = some (.cells (bcells fun _ => 0).toArray 88 (0, 0))) := Lib.hid (by
                rw [heap_setCell_other _ _ _ _ (by show w.heap.size + 1 ≠ w.heap.size; omega)]; exact HZ.out)
              have BW2 := Lib.hid (BW.out.setCell (p := ⟨w.heap.size, k, none⟩) (Nat.le_refl _) (.int .i64 v))
              have hsz2 : w.heap.size + 2 ≤ (wr.setCell ⟨w.heap.size, k, none⟩ (.int .i64 v)).heap.size := by rw [Reg.size_setCell]; exact hsz
              go_wp2_with fail
              go_roundw
              case rel => exact ⟨k + 1, by go_num, by omega, by rw [HST.out], HA2.out, HZ2.out, BW2.out, hsz2⟩
              case measure => (simp [intOf] <;> omega)
            · rw [if_neg hd] at hst hsd
              obtain ⟨v, hv⟩ : ∃ v, v = -x - g := ⟨_, rfl⟩
              rw [← hv] at hsd hd
              have hv' := hv.symm
              have HST := Lib.hid hst; have HSD := Lib.hid hsd
              clear hst hsd
              have hvb : -9223372036854775808 ≤ v ∧ v ≤ 9223372036854775807 := by omega
              obtain ⟨hvb1, hvb2⟩ := hvb
              clear hv
              have HA2 : Hid ((wr.setCell ⟨w.heap.size, k, none⟩ (.int .i64 v)).heap[w.heap.size]? = some (.cells (bcells (mixI (stD X) (ngD (stD X)) (k + 1))).toArray 88 (0, 0))) := Lib.hid (by
                rw [heap_setCell_same _ _ _ _ _ _ HA.out, bcells_set, ← HSET.out, HSD.out])
              have HZ2 : Hid ((wr.setCell ⟨w.heap.size, k, none⟩ (.int .i64 v)).heap[w.heap.size + 1]? = some (.cells (bcells fun _ => 0).toArray 88 (0, 0))) := Lib.hid (by
                rw [heap_setCell_other _ _ _ _ (by show w.heap.size + 1 ≠ w.heap.size; omega)]; exact HZ.out)
              have BW2 := Lib.hid (BW.out.setCell (p := ⟨w.heap.size, k, none⟩) (Nat.le_refl _) (.int .i64 v))
              have hsz2 : w.heap.size + 2 ≤ (wr.setCell ⟨w.heap.size, k, none⟩ (.int .i64 v)).heap.size := by rw [Reg.size_setCell]; exact hsz
              go_wp2_with fail
              go_roundw
              case rel => exact ⟨k + 1, by go_num, by omega, by rw [HST.out], HA2.out, HZ2.out, BW2.out, hsz2⟩
              case measure => (simp [intOf] <;> omega)
          · obtain rfl : k = 280 := by omega
            have hmx : bcells (mixI (stD X) (ngD (stD X)) 280) = bcells (ngD (stD X)) := bcells_congr fun i hi => by unfold mixI; rw [if_pos hi]
            rw [hmx] at HA
            clear hmx
            have HY : Hid (IsDig (ngD (stD X))) := Lib.hid fun i hi => ngD_bd (stD_bd X i)
            have hsg : sgnI S = -1 := by unfold sgnI; rw [if_pos HSN.out]
            have HBV2 : Hid (bv (ngD (stD X)) 280 = (S.natAbs : Int)) := Lib.hid (by rw [HBV.out]; have := HSN.out; omega)
            have HSG := Lib.hid hsg
            clear hsg
            generalize ngD (stD X) = Y at *
            go_wp2_with (first
              | (with_reducible refine wpList_load_row rfl 88 _ rfl w.heap.size rfl 88 (bcells Y).toArray (0, 0) _ HA.out Try.underlying88 rfl (info280' _) ?_)
              | (with_reducible refine wpList_store_row rfl 88 _ _ rfl (w.heap.size + 1) (bcells Y).toArray rfl rfl 88 (bcells fun _ => 0).toArray HZ.out (info280' _) (by simp [bcells]) (all_oneCell_toArray (bcells_one _)) ?_))
            refine bodyPost_ret (results_cell_tmp Try.results95 _ _ (w.heap.size + 1) 88 (bcells Y).toArray (0, 0) _ rfl
              (setRow_heap _ _ (bcells fun _ => 0).toArray _ _ _ HZ.out) Try.underlying88 rfl (info280' _)) rfl ⟨Y, ?_, HY.out, HBV2.out, below_setRow BW.out (by omega)⟩
            rw [HSG.out]; rfl
      · obtain ⟨n1, n2⟩ := HP.out (by omega) HS.out
        have HSN := Lib.hid n1; have HBV := Lib.hid n2
        have HZI := Lib.hid (bv_zero_iff (Y := stD X) 280 fun i _ => stD_bd X i)
        have HY : Hid (IsDig (stD X)) := Lib.hid fun i hi => stD_bd X i
        have HBV2 : Hid (bv (stD X) 280 = (S.natAbs : Int)) := Lib.hid (by rw [n2]; omega)
        clear n1 n2
        obtain ⟨c, ec⟩ : ∃ c, c = stC X 280 := ⟨_, rfl⟩
        rw [← ec] at hc ⊢
        clear ec HN HP
        go_wp2_with fail
        clear hc
        generalize stD X = Y at *
        go_loop [9] (fun t => ∃ k : Nat, t = .int .i64 k ∧ k ≤ 280 ∧ ∀ i, i < k → Y i = 0) (fun t => 280 - (intOf t).toNat)
        case atStart => exact ⟨0, rfl, by omega, fun i hi => by omega⟩
        case round =>
          obtain ⟨k, rfl, hk, hall⟩ := hrel
          have HALL := Lib.hid hall
          clear hall
          by_cases hk2 : k < 280
          · have h3 : (k : Int) < 280 := by omega
            have h0 : (0 : Int) ≤ (k : Int) := by omega
            have c1 := cell_of_row wr w.heap.size k _ _ _ HA.out
            rw [List.getElem?_toArray, bcells_get _ hk2] at c1
            by_cases hy : Y k = 0
            · have HN2 : Hid (∀ i, i < k + 1 → Y i = 0) := Lib.hid fun i hi => by
                by_cases e : i = k
                · rw [e]; exact hy
                · exact HALL.out i (by omega)
              rw [hy] at c1
              clear hy
              go_wp2_with fail
              go_round
              case rel => exact ⟨k + 1, by go_num, by omega, HN2.out⟩
              case measure => (simp [intOf] <;> omega)
            · have HSG : Hid (sgnI S = 1) := Lib.hid (by
                have h1 := HSN.out
                have h2 : S ≠ 0 := fun e => hy ((HZI.out.1 (by rw [HBV.out]; exact e)) k hk2)
                unfold sgnI; rw [if_neg (by omega), if_neg h2])
              obtain ⟨y, ey⟩ : ∃ y, y = Y k := ⟨_, rfl⟩
              rw [← ey] at c1 hy
              have hy' : (y != 0) = true := by simpa using hy
              clear hy ey
              go_wp2_with (first
                | (with_reducible refine wpList_load_row rfl 88 _ rfl w.heap.size rfl 88 (bcells Y).toArray (0, 0) _ HA.out Try.underlying88 rfl (info280' _) ?_)
                | (with_reducible refine wpList_store_row rfl 88 _ _ rfl (w.heap.size + 1) (bcells Y).toArray rfl rfl 88 (bcells fun _ => 0).toArray HZ.out (info280' _) (by simp [bcells]) (all_oneCell_toArray (bcells_one _)) ?_))
              refine bodyPost_ret (results_cell_tmp Try.results95 _ _ (w.heap.size + 1) 88 (bcells Y).toArray (0, 0) _ rfl
                (setRow_heap _ _ (bcells fun _ => 0).toArray _ _ _ HZ.out) Try.underlying88 rfl (info280' _)) rfl ⟨Y, ?_, HY.out, HBV2.out, below_setRow BW.out (by omega)⟩
              rw [HSG.out]; rfl
          · obtain rfl : k = 280 := by omega
            have HSG : Hid (sgnI S = 0) := Lib.hid (by
              have h2 : S = 0 := by rw [← HBV.out]; exact HZI.out.2 HALL.out
              rw [h2]; rfl)
            go_wp2_with (first
              | (with_reducible refine wpList_load_row rfl 88 _ rfl w.heap.size rfl 88 (bcells Y).toArray (0, 0) _ HA.out Try.underlying88 rfl (info280' _) ?_)
              | (with_reducible refine wpList_store_row rfl 88 _ _ rfl (w.heap.size + 1) (bcells Y).toArray rfl rfl 88 (bcells fun _ => 0).toArray HZ.out (info280' _) (by simp [bcells]) (all_oneCell_toArray (bcells_one _)) ?_))
            refine bodyPost_ret (results_cell_tmp Try.results95 _ _ (w.heap.size + 1) 88 (bcells Y).toArray (0, 0) _ rfl
              (setRow_heap _ _ (bcells fun _ => 0).toArray _ _ _ HZ.out) Try.underlying88 rfl (info280' _)) rfl ⟨Y, ?_, HY.out, HBV2.out, below_setRow BW.out (by omega)⟩
            rw [HSG.out]; rfl
end Go.Proofs.Ytjakjnmfndfehaa

namespace Go.Pst
open Go Ieee
set_option linter.unusedVariables false
set_option linter.unusedSimpArgs false
/-- Digits as a number. -/
def dv (Y : Nat → Int) : Nat → Nat
  | 0 => 0
  | n + 1 => dv Y n + (Y n).toNat * 65536 ^ n
theorem dv_bv {Y : Nat → Int} : ∀ n, (∀ i, i < n → 0 ≤ Y i ∧ Y i < 65536) → (dv Y n : Int) = bv Y n
  | 0, _ => rfl
  | n + 1, h => by
    have h1 := dv_bv n fun i hi => h i (by omega)
    have h2 := h n (by omega)
    unfold dv bv
    rw [Int.natCast_add, Int.natCast_mul, h1, Int.toNat_of_nonneg h2.1]
theorem dv_lt {Y : Nat → Int} (n : Nat) (h : ∀ i, i < n → 0 ≤ Y i ∧ Y i < 65536) : dv Y n < 65536 ^ n := by
  have h1 := dv_bv n h
  have h2 := bv_nonneg n h
  omega
theorem dv_place {Y : Nat → Int} : ∀ n, (∀ i, i < n → 0 ≤ Y i ∧ Y i < 65536) → ∀ k, k < n → dv Y n / 65536 ^ k % 65536 = (Y k).toNat
  | 0, _, k, hk => by omega
  | n + 1, hb, k, hk => by
    have h1 := dv_lt n fun i hi => hb i (by omega)
    have h2 := hb n (by omega)
    have hp : 0 < 65536 ^ k := Nat.pow_pos (by omega)
    unfold dv
    by_cases h : k = n
    · subst h
      rw [Nat.add_mul_div_right _ _ hp, Nat.div_eq_of_lt h1, Nat.zero_add, Nat.mod_eq_of_lt (by omega)]
    · have ih := dv_place n (fun i hi => hb i (by omega)) k (by omega)
      obtain ⟨d, rfl⟩ : ∃ d, n = k + 1 + d := ⟨n - k - 1, by omega⟩
      rw [show (Y (k + 1 + d)).toNat * 65536 ^ (k + 1 + d) = (Y (k + 1 + d)).toNat * 65536 ^ d * 65536 * 65536 ^ k by
        rw [Nat.pow_add, Nat.pow_succ]; simp only [Nat.mul_assoc, Nat.mul_comm, Nat.mul_left_comm]]
      rw [Nat.add_mul_div_right _ _ hp, Nat.add_mul_mod_self_right]
      exact ih
theorem dig_bit {Y : Nat → Int} (hY : IsDig Y) {n : Nat} (hn : n < 4480) : (Y (n / 16)).toNat / 2 ^ (n % 16) % 2 = dv Y 280 / 2 ^ n % 2 := by
  have h := dv_place 280 hY (n / 16) (by omega)
  rw [← h]
  generalize dv Y 280 = N
  rw [show (65536 : Nat) ^ (n / 16) = 2 ^ (16 * (n / 16)) by rw [show (65536 : Nat) = 2 ^ 16 from rfl, ← Nat.pow_mul]]
  rw [show (65536 : Nat) = 2 ^ (n % 16) * 2 ^ (16 - n % 16) by rw [← Nat.pow_add, show n % 16 + (16 - n % 16) = 16 by omega], Nat.mod_mul_right_div_self]
  rw [show 2 ^ (16 - n % 16) = 2 * 2 ^ (15 - n % 16) by rw [show 16 - n % 16 = 15 - n % 16 + 1 by omega, Nat.pow_succ, Nat.mul_comm], Nat.mod_mul_right_mod, Nat.div_div_eq_div_mul, ← Nat.pow_add,
    show 16 * (n / 16) + n % 16 = n by omega]
/-- Bits out of digits and a power. -/
def scV (m : Nat) (e : Int) : Nat :=
  if m < 4503599627370496 then m else if 2047 ≤ (if m = 9007199254740992 then e + 1 else e) + 1075 then 9218868437227405312
  else ((if m = 9007199254740992 then e + 1 else e) + 1075).toNat * 4503599627370496 + (if m = 9007199254740992 then 4503599627370496 else m) % 4503599627370496
theorem scV_rnd {N : Nat} (h : N ≠ 0) {E : Int} (hk : 0 ≤ kap 52 11 N E) : scV (rne N (kap 52 11 N E).toNat) (E + kap 52 11 N E) = rndN 52 11 N E := by
  obtain ⟨k1, k2, k3⟩ := kept_facts 52 11 N E h
  have hkn : keptN 52 11 N E = rne N (kap 52 11 N E).toNat := by unfold keptN; rw [if_pos hk]
  rw [hkn] at k1 k2
  have hf := rnd_fin 52 11 _ _ (by omega) k1 k2 k3
  have hR : rndN 52 11 N E = min ((E + kap 52 11 N E - lst 52 11).toNat * 2 ^ 52 + keptN 52 11 N E) ((2 ^ 11 - 1) * 2 ^ 52) := by unfold rndN; rw [if_neg h]
  rw [hR, hkn, hf]
  have hl : lst 52 11 = -1074 := by decide
  rw [hl]
  unfold scV
  generalize rne N (kap 52 11 N E).toNat = n
  generalize E + kap 52 11 N E = x
  rw [show (2 : Nat) ^ 52 = 4503599627370496 from rfl, show (2 : Nat) ^ (52 + 1) = 9007199254740992 from rfl, show ((2 ^ 11 - 1 : Nat) : Int) = 2047 from rfl, show (2 ^ 11 - 1) * 4503599627370496 = 9218868437227405312 from rfl]
  generalize (if n = 9007199254740992 then x + 1 else x) = y
  generalize (if n = 9007199254740992 then 4503599627370496 else n) = z
  rw [show y - -1074 + 1 = y + 1075 by omega]
end Go.Pst
namespace Go.Proofs.Ytjakjnmfndfehaa
open Go.RowKit Go.Pst
set_option maxRecDepth 20000
set_option linter.unusedSimpArgs false
set_option linter.unusedVariables false

theorem and1 (c : Int) (h1 : 0 ≤ c) (h2 : c < 9223372036854775808) : bits .and .i64 c 1 = c % 2 := by
  show IntKind.i64.wrap ((BitVec.ofInt 64 c &&& BitVec.ofInt 64 1).toNat : Int) = _
  rw [BitVec.toNat_and, BitVec.toNat_ofInt, BitVec.toNat_ofInt]
  rw [show ((1 : Int) % ((2 ^ 64 : Nat) : Int)).toNat = 1 from by decide, Nat.and_one_is_mod, IntKind.wrap_i64]
  omega

set_option maxHeartbeats 1000000 in
theorem rbit_any (Y : Nat → Int) (n : Nat) (w : World) (hY : IsDig Y) (hn : n < 4480) :
    Calls Try.prog 127 #[.agg (bcells Y).toArray, .int .i64 n] w fun en w' => en = .returned (.int .i64 ((dv Y 280 / 2 ^ n % 2 : Nat) : Int)) ∧ Below w.heap.size w w' := by
  have h := dig_bit hY hn
  have hb := hY (n / 16) (by omega)
  have gk := bcells_get Y (i := n / 16) (by omega)
  have hg : (bcells Y).toArray[n / 16]? = some (.int .i64 (Y (n / 16))) := by rw [List.getElem?_toArray]; exact gk
  have h0 : (0 : Int) ≤ (n : Int) := by omega
  have h1 : (n : Int) / 16 < 280 := by omega
  have h2 : (n : Int) < 4480 := by omega
  rw [← h]
  obtain ⟨y, hy⟩ : ∃ y : Nat, y = (Y (n / 16)).toNat := ⟨_, rfl⟩
  have hy2 : Y (n / 16) = (y : Int) := by omega
  rw [← hy]
  rw [hy2] at hg hb
  have HR : Hid (bits BinOp.and IntKind.i64 ((y : Int) / 2 ^ (n % 16)) 1 = ((y / 2 ^ (n % 16) % 2 : Nat) : Int)) := Lib.hid (by
    rw [show ((y : Int) / 2 ^ (n % 16)) = ((y / 2 ^ (n % 16) : Nat) : Int) by rw [Int.natCast_ediv, Int.natCast_pow]; rfl]
    have hd := Nat.div_le_self y (2 ^ (n % 16))
    generalize y / 2 ^ (n % 16) = z at *
    rw [and1 _ (by omega) (by omega)]
    omega)
  clear hy hy2 gk h
  go_enter Try.func127, Try.ntmps127
  go_wp2_with fail
  go_ret
  exact ⟨by rw [HR.out]; rfl, (Below.refl _ _).alloc (Nat.le_refl _) _⟩

attribute [local go_sem] m64bits m64from
set_option maxHeartbeats 1000000 in
theorem scaled_any (m : Nat) (e : Int) (w : World) (hm : m ≤ 9007199254740992) (he : -1074 ≤ e ∧ e ≤ 100000) :
    Calls Try.prog 128 #[.int .i64 m, .int .i64 e] w fun en w' => en = .returned (.float .f64 (scV m e)) ∧ w = w' := by
  obtain ⟨r, hr⟩ : ∃ r, r = scV m e := ⟨_, rfl⟩
  rw [← hr]
  unfold scV at hr
  have main : ∀ (M : Nat) (E : Int), 4503599627370496 ≤ M → M < 9007199254740992 → -1074 ≤ E → E ≤ 100001 → (r = if 2047 ≤ E + 1075 then 9218868437227405312 else (E + 1075).toNat * 4503599627370496 + M % 4503599627370496) →
      (¬ 2047 ≤ E + 1075 → bits .or .u64 ((E + 1075) * 4503599627370496) ((M : Int) - 4503599627370496) = (r : Int)) := fun M E a1 a2 a3 a4 a5 a6 => by
    rw [if_neg a6] at a5
    obtain ⟨F, hF⟩ : ∃ F : Nat, E + 1075 = (F : Int) := ⟨(E + 1075).toNat, by omega⟩
    rw [hF] at a5 a6 ⊢
    have h2 : M % 4503599627370496 = M - 4503599627370496 := by omega
    have h4 := or_disj2 (x := M - 4503599627370496) (y := F) (n := 52) (by omega) (by omega) (by omega)
    rw [show ((F : Int) * 4503599627370496) = ((F * 4503599627370496 : Nat) : Int) by omega, show ((M : Int) - 4503599627370496) = ((M - 4503599627370496 : Nat) : Int) by omega]
    rw [show (2 : Nat) ^ 52 = 4503599627370496 from rfl] at h4
    rw [h4, a5, h2, Int.toNat_natCast]
  by_cases h1 : m < 4503599627370496
  · rw [if_pos h1] at hr
    obtain ⟨M, hM⟩ : ∃ M : Int, M = (m : Int) := ⟨_, rfl⟩
    have HR : Hid (M.toNat = r) := Lib.hid (by rw [hM, hr]; rfl)
    have g1 : M < 4503599627370496 := by omega
    have g0 : 0 ≤ M := by omega
    rw [← hM]
    clear hr hm h1 hM main
    go_enter Try.func128, Try.ntmps128
    go_wp2_with fail
    go_ret
    exact ⟨congrArg (fun x => Ending.returned (Value.float .f64 x)) HR.out, rfl⟩
  · rw [if_neg h1] at hr
    by_cases h2 : m = 9007199254740992
    · rw [if_pos h2, if_pos h2] at hr
      have hor := main 4503599627370496 (e + 1) (by omega) (by omega) (by omega) (by omega) hr
      rw [h2]
      by_cases h3 : 2047 ≤ e + 1 + 1075
      · rw [if_pos h3] at hr
        have HR := Lib.hid hr.symm
        clear hr hor main hm h1 h2
        go_enter Try.func128, Try.ntmps128
        go_wp2_with fail
        go_ret
        exact ⟨congrArg (fun x => Ending.returned (Value.float .f64 x)) HR.out, rfl⟩
      · have hor2 := hor h3
        rw [show ((4503599627370496 : Nat) : Int) - 4503599627370496 = 0 from rfl] at hor2
        have HR : Hid ((bits .or .u64 ((e + 1 + 1075) * 4503599627370496) 0).toNat = r) := Lib.hid (by rw [hor2, Int.toNat_natCast])
        have h3' : e + 1 + 1075 < 2047 := by omega
        clear hr hor main hm h1 h2 hor2 h3
        go_enter Try.func128, Try.ntmps128
        go_wp2_with fail
        go_ret
        exact ⟨congrArg (fun x => Ending.returned (Value.float .f64 x)) HR.out, rfl⟩
    · rw [if_neg h2, if_neg h2] at hr
      have hor := main m e (by omega) (by omega) (by omega) (by omega) hr
      obtain ⟨M, hM⟩ : ∃ M : Int, M = (m : Int) := ⟨_, rfl⟩
      rw [← hM] at hor ⊢
      have g1 : 4503599627370496 ≤ M := by omega
      have g2 : M < 9007199254740992 := by omega
      by_cases h3 : 2047 ≤ e + 1075
      · rw [if_pos h3] at hr
        have HR := Lib.hid hr.symm
        clear hr hor main hm h1 h2 hM
        go_enter Try.func128, Try.ntmps128
        go_wp2_with fail
        go_ret
        exact ⟨congrArg (fun x => Ending.returned (Value.float .f64 x)) HR.out, rfl⟩
      · have hor2 := hor h3
        have HR : Hid ((bits .or .u64 ((e + 1075) * 4503599627370496) (M - 4503599627370496)).toNat = r) := Lib.hid (by rw [hor2, Int.toNat_natCast])
        have h3' : e + 1075 < 2047 := by omega
        clear hr hor main hm h1 h2 hor2 h3 hM
        go_enter Try.func128, Try.ntmps128
        go_wp2_with fail
        go_ret
        exact ⟨congrArg (fun x => Ending.returned (Value.float .f64 x)) HR.out, rfl⟩
end Go.Proofs.Ytjakjnmfndfehaa

namespace Go.Pst
open Go Ieee
set_option linter.unusedVariables false
theorem dv_bits_zero {N : Nat} {n : Nat} (hN : N < 2 ^ n) (h : ∀ i, i < n → N / 2 ^ i % 2 = 0) : N = 0 := by
  have h1 := some_iff N n
  refine Decidable.byContradiction fun hne => ?_
  rw [Nat.mod_eq_of_lt hN] at h1
  obtain ⟨i, hi, h2⟩ := h1.2 hne
  have := h i hi
  omega
theorem top_len {N k n : Nat} (hN : N < 2 ^ n) (hk : k < n) (h1 : N / 2 ^ k % 2 = 1) (h : ∀ i, k + 1 ≤ i → i < n → N / 2 ^ i % 2 = 0) : N < 2 ^ (k + 1) ∧ 2 ^ k ≤ N := by
  have hlt : N < 2 ^ (k + 1) := by
    refine Decidable.byContradiction fun hne => ?_
    have hne' : 2 ^ (k + 1) ≤ N := by omega
    have h0 : N ≠ 0 := by have := Nat.two_pow_pos (k + 1); omega
    have hl1 := Nat.log2_self_le h0
    have hl2 := Nat.lt_log2_self (n := N)
    have hl3 : N.log2 < n := (Nat.log2_lt h0).2 hN
    have hl4 : k + 1 ≤ N.log2 := by
      rcases Nat.lt_or_ge N.log2 (k + 1) with h5 | h5
      · have := (Nat.log2_lt h0).1 h5; omega
      · exact h5
    have h6 := h N.log2 hl4 hl3
    have h7 : N / 2 ^ N.log2 = 1 := by
      rw [Nat.pow_succ] at hl2
      exact Nat.div_eq_of_lt_le (by omega) (by omega)
    rw [h7] at h6
    omega
  refine ⟨hlt, ?_⟩
  refine Decidable.byContradiction fun hne => ?_
  rw [Nat.div_eq_of_lt (by omega)] at h1
  omega
theorem rest_step (N i : Nat) : decide (N % 2 ^ (i + 1) ≠ 0) = (decide (N % 2 ^ i ≠ 0) || decide (N / 2 ^ i % 2 = 1)) := by
  have e : N % 2 ^ (i + 1) = N % 2 ^ i + 2 ^ i * (N / 2 ^ i % 2) := Nat.mod_pow_succ
  have hp := Nat.two_pow_pos i
  rw [e, Bool.eq_iff_iff]
  simp only [Bool.or_eq_true, decide_eq_true_eq]
  rcases Nat.mod_two_eq_zero_or_one (N / 2 ^ i) with h | h
  · rw [h]; simp
  · rw [h]; constructor
    · intro _; exact .inr rfl
    · intro _; omega
theorem rne_bitsB (N E : Nat) : rne N (E + 1) = N / 2 ^ (E + 1) + (if N / 2 ^ E % 2 = 1 ∧ (N / 2 ^ (E + 1) % 2 = 1 ∨ decide (N % 2 ^ E ≠ 0) = true) then 1 else 0) := by
  rw [rne_bits]; simp only [decide_eq_true_eq]
end Go.Pst
namespace Go.Proofs.Ytjakjnmfndfehaa
open Go.RowKit Go.Pst
set_option maxRecDepth 20000
set_option linter.unusedSimpArgs false
set_option linter.unusedVariables false

theorem wpList_load_row_g {P : Program} {ops : Array Oper} {rest : List Oper} {o : Oper} {a : Act} {w : World} {Q : Exit → Act → World → Prop} (hw : Region.wanted o (yielded ops a.tmps) = true) (ty : TypeId) (x : Operand) (ho : o.op = .load ty x)
    (g : Nat) (hx : a.eval x = .pointer (some ⟨g, 0, none⟩)) (t : TypeId) (cs : Array Value) (fr : Nat × Nat) (d : TypeDesc) (hg : w.heap[g]? = some (.cells cs t fr))
    (hu : P.underlying ty = some d) (hd : (match d with | .struct _ | .array _ _ => true | _ => false) = true) (hi : (P.info? ty).map (·.size) = some cs.size)
    (h : wpList P ops Q rest (a.put o.dst (.agg cs)) w) : wpList P ops Q (o :: rest) a w := by
  unfold wpList
  rw [if_pos hw]
  exact .inl (wp_load_row ty x ho g hx t cs fr d hg hu hd hi h)



def K48 : Nat := 4480
set_option maxHeartbeats 8000000 in
theorem rounded_any (Y : Nat → Int) (N : Nat) (w : World) (hY : IsDig Y) (hN : dv Y 280 = N) :
    Calls Try.prog 113 #[.agg (bcells Y).toArray] w fun en w' => en = .returned (.float .f64 (rndN 52 11 N (-2200))) ∧ Below w.heap.size w w' := by
  have hlt : N < 2 ^ K48 := by
    have h := dv_lt (Y := Y) K28 hY
    rw [show (65536 : Nat) ^ K28 = 2 ^ K48 by rw [show (65536 : Nat) = 2 ^ 16 from rfl, ← Nat.pow_mul]; exact congrArg (2 ^ ·) (show 16 * K28 = K48 by decide)] at h
    rw [← hN]; exact h
  have HB := Lib.hid fun (j : Nat) (hj : j < 4480) (w : World) => rbit_any Y j w hY hj
  rw [hN] at HB
  have HLT := Lib.hid hlt
  clear hlt hN hY
  obtain ⟨r, hr⟩ : ∃ r, r = rndN 52 11 N (-2200) := ⟨_, rfl⟩
  rw [← hr]
  have HR := Lib.hid hr
  clear hr
  go_enter Try.func113, Try.ntmps113
  go_wp2_with fail
  go_loopw [3] (fun t wr => ∃ k : Nat, t = .int .i64 ((k : Int) - 1) ∧ k ≤ 4480 ∧ (∀ i, k ≤ i → i < 4480 → N / 2 ^ i % 2 = 0) ∧ wr.heap[w.heap.size]? = some (.cells (bcells Y).toArray 88 (0, 0)) ∧ Below w.heap.size w wr ∧ w.heap.size + 1 ≤ wr.heap.size) (fun t _ => (intOf t + 1).toNat)
  case atStart => exact ⟨4480, rfl, by omega, fun i h1 h2 => by omega, heap_alloc_new w _, (Below.refl _ _).alloc (Nat.le_refl _) _, by simp⟩
  case round =>
    obtain ⟨k, rfl, hk, hall, ha, hw, hsz⟩ := hrel
    have HALL := Lib.hid hall; have HA := Lib.hid ha; have BW := Lib.hid hw
    clear hall ha hw
    rcases k with _ | k
    · have HR2 : Hid (0 = r) := Lib.hid (by
        have h0 : N = 0 := dv_bits_zero HLT.out fun i hi => HALL.out i (by omega) hi
        rw [HR.out, h0]; unfold rndN; rw [if_pos rfl])
      have e : ((0 : Nat) : Int) - 1 = -1 := rfl
      rw [e]
      clear e
      go_wp2_with fail
      go_ret
      exact ⟨congrArg (fun x => Ending.returned (Value.float .f64 x)) HR2.out, BW.out⟩
    · have e : ((k + 1 : Nat) : Int) - 1 = (k : Int) := by omega
      rw [e]
      have h0 : (0 : Int) ≤ (k : Int) := by omega
      have HBk := Lib.hid (HB.out k (by omega))
      clear e
      by_cases hb : N / 2 ^ k % 2 = 0
      · have HN2 : Hid (∀ i, k ≤ i → i < 4480 → N / 2 ^ i % 2 = 0) := Lib.hid fun i h1 h2 => by
          by_cases e : i = k
          · rw [e]; exact hb
          · exact HALL.out i (by omega) h2
        rw [hb] at HBk
        clear hb
        go_wp2_with (first
          | (with_reducible refine wpList_load_row rfl 88 _ rfl w.heap.size rfl 88 (bcells Y).toArray (0, 0) _ HA.out Try.underlying88 rfl (info280' _) ?_)
          | (refine wpList_load_row_g (by rfl) 88 _ rfl w.heap.size rfl 88 (bcells Y).toArray (0, 0) _ HA.out Try.underlying88 rfl (info280' _) ?_))
        refine (HBk.out _).mono ?_
        rintro en wn ⟨rfl, hbn⟩
        have zz := BW.out.size
        replace HA := Lib.hid ((hbn.block w.heap.size (by omega)).trans HA.out)
        replace BW := Lib.hid (BW.out.trans (hbn.mono zz))
        replace hsz : w.heap.size + 1 ≤ wn.heap.size := Nat.le_trans hsz hbn.size
        clear hbn zz
        go_wp2_with fail
        go_roundw
        case rel => exact ⟨k, by go_num, by omega, HN2.out, HA.out, BW.out, hsz⟩
        case measure => (simp [intOf] <;> omega)
      · have hb1 : N / 2 ^ k % 2 = 1 := by omega
        obtain ⟨t1, t2⟩ := top_len HLT.out (show k < K48 from by show k < 4480; omega) hb1 HALL.out
        have HT1 := Lib.hid t1; have HT2 := Lib.hid t2
        rw [hb1] at HBk
        have hN0 : N ≠ 0 := by have := Nat.two_pow_pos k; omega
        have hlog : N.log2 = k := log2_is t2 t1
        have hkap : kap 52 11 N (-2200) = max ((k : Int) - 52) 1126 := by
          unfold kap; rw [hlog, show lst 52 11 = -1074 by decide]; omega
        have hfin := scV_rnd hN0 (E := -2200) (by rw [hkap]; omega)
        rw [← HR.out, hkap] at hfin
        clear hb hb1 t1 t2 hN0 hlog hkap
        by_cases hlow : (k : Int) - 52 < 1126
        · obtain ⟨l, hl⟩ : ∃ l : Nat, max ((k : Int) - 52) 1126 = (l : Int) := ⟨1126, by omega⟩
          rw [hl] at hfin
          have hl1 : l ≤ 1126 := by omega
          have hl2 : 1126 ≤ l := by omega
          have hF : Hid (scV (rne N l) (-1074) = r) := Lib.hid (by
            rw [show (-2200 : Int) + (l : Int) = -1074 by omega] at hfin
            exact hfin)
          have hlow' : (k : Int) - 52 + -2200 < -1074 := by omega
          have hlk : k + 1 ≤ l + 53 := by omega
          obtain ⟨E, hE⟩ : ∃ E, l = E + 1 := ⟨l - 1, by omega⟩
          have hE1 : E ≤ 1125 := by omega
          have hE3 : 1125 ≤ E := by omega
          have HE := Lib.hid hE
          clear hfin hlow hE hl
          go_wp2_with (first
            | (with_reducible refine wpList_load_row rfl 88 _ rfl w.heap.size rfl 88 (bcells Y).toArray (0, 0) _ HA.out Try.underlying88 rfl (info280' _) ?_)
            | (refine wpList_load_row_g (by rfl) 88 _ rfl w.heap.size rfl 88 (bcells Y).toArray (0, 0) _ HA.out Try.underlying88 rfl (info280' _) ?_))
          refine (HBk.out _).mono ?_
          rintro en wn ⟨rfl, hbn⟩
          have zz := BW.out.size
          replace HA := Lib.hid ((hbn.block w.heap.size (by omega)).trans HA.out)
          replace BW := Lib.hid (BW.out.trans (hbn.mono zz))
          replace hsz : w.heap.size + 1 ≤ wn.heap.size := Nat.le_trans hsz hbn.size
          clear hbn zz
          clear HBk
          have hq53 : N / 2 ^ l < 9007199254740992 := by
            refine Nat.div_lt_of_lt_mul ?_
            rw [show (9007199254740992 : Nat) = 2 ^ 53 from rfl, ← Nat.pow_add]
            exact Nat.lt_of_lt_of_le HT1.out (Nat.pow_le_pow_right (by omega) (by omega))
          have HQ := Lib.hid hq53
          have HK1 : Hid (N / 2 ^ (k + 1) = 0) := Lib.hid (Nat.div_eq_of_lt HT1.out)
          clear hq53 hlk
          go_wp2_with fail
          go_loopw [5, 6] (fun mv t wr => ∃ j : Nat, t = .int .i64 ((j : Int) - 1) ∧ j ≤ k + 1 ∧ (l ≤ j ∨ j = k + 1) ∧ mv = .int .i64 (N / 2 ^ j : Nat) ∧ wr.heap[w.heap.size]? = some (.cells (bcells Y).toArray 88 (0, 0)) ∧ Below w.heap.size w wr ∧ w.heap.size + 1 ≤ wr.heap.size) (fun _ t _ => (intOf t + 1).toNat)
          case atStart => exact ⟨k + 1, by go_num, Nat.le_refl _, .inr rfl, by rw [HK1.out]; rfl, HA.out, BW.out, hsz⟩
          case round =>
            clear HA BW hsz
            obtain ⟨j, rfl, hj, hjd, rfl, ha, hw, hsz⟩ := hrel
            have HA := Lib.hid ha; have BW := Lib.hid hw
            clear ha hw
            by_cases hc : l < j
            · rcases j with _ | j
              · omega
              have e : ((j + 1 : Nat) : Int) - 1 = (j : Int) := by omega
              rw [e]
              have hge : 1126 ≤ (j : Int) := by omega
              have hj0 : (0 : Int) ≤ (j : Int) := by omega
              have hst := div_shift N j
              have hnb : N / 2 ^ (j + 1) < 9007199254740992 := Nat.lt_of_le_of_lt (Nat.div_le_div_left (Nat.pow_le_pow_right (by omega) (by omega)) (Nat.two_pow_pos _)) HQ.out
              have hbl : N / 2 ^ j % 2 < 2 := Nat.mod_lt _ (by omega)
              have HBj := Lib.hid (HB.out j (by omega))
              obtain ⟨bb, hb⟩ : ∃ b, b = N / 2 ^ j % 2 := ⟨_, rfl⟩
              obtain ⟨n1, hn1⟩ : ∃ n, n = N / 2 ^ (j + 1) := ⟨_, rfl⟩
              rw [← hb] at hst hbl HBj
              rw [← hn1] at hst hnb ⊢
              have HST := Lib.hid hst
              have hbi : (0 : Int) ≤ (bb : Int) ∧ (bb : Int) < 2 := by omega
              have hni : (0 : Int) ≤ (n1 : Int) ∧ (n1 : Int) < 9007199254740992 := by omega
              clear e hb hn1 hst hnb hbl
              go_wp2_with (first
                | (with_reducible refine wpList_load_row rfl 88 _ rfl w.heap.size rfl 88 (bcells Y).toArray (0, 0) _ HA.out Try.underlying88 rfl (info280' _) ?_)
                | (refine wpList_load_row_g (by rfl) 88 _ rfl w.heap.size rfl 88 (bcells Y).toArray (0, 0) _ HA.out Try.underlying88 rfl (info280' _) ?_))
              refine (HBj.out _).mono ?_
              rintro en wn ⟨rfl, hbn⟩
              have zz := BW.out.size
              replace HA := Lib.hid ((hbn.block w.heap.size (by omega)).trans HA.out)
              replace BW := Lib.hid (BW.out.trans (hbn.mono zz))
              replace hsz : w.heap.size + 1 ≤ wn.heap.size := Nat.le_trans hsz hbn.size
              clear hbn zz
              go_wp2_with fail
              go_roundw
              case rel => exact ⟨j, by go_num, by omega, .inl (by omega), by rw [HST.out]; first | rfl | simp, HA.out, BW.out, hsz⟩
              case measure => (simp [intOf] <;> omega)
            · have hlt : (j : Int) - 1 < 1126 := by omega
              have hND : N / 2 ^ j = N / 2 ^ l := by
                rcases hjd with h | h
                · rw [show j = l by omega]
                · subst h
                  have h1 := HK1.out
                  have h2 : N / 2 ^ l ≤ N / 2 ^ (k + 1) := Nat.div_le_div_left (Nat.pow_le_pow_right (by omega) (by omega)) (Nat.two_pow_pos _)
                  rw [h1] at h2
                  rw [h1, Nat.le_zero.1 h2]
              rw [hND]
              clear hND
              obtain ⟨q, hq⟩ : ∃ q, q = N / 2 ^ l := ⟨_, rfl⟩
              rw [← hq]
              have HQQ := Lib.hid hq
              clear hq hc hjd
              go_wp2_with fail
              clear hlt hlow'
              go_loopw [7, 8] (fun rv t wr => ∃ i : Nat, t = .int .i64 i ∧ i ≤ E ∧ rv = .bool (decide (N % 2 ^ i ≠ 0)) ∧ wr.heap[w.heap.size]? = some (.cells (bcells Y).toArray 88 (0, 0)) ∧ Below w.heap.size w wr ∧ w.heap.size + 1 ≤ wr.heap.size) (fun _ t _ => E - (intOf t).toNat)
              case atStart => exact ⟨0, rfl, by omega, by rw [Nat.pow_zero, Nat.mod_one]; rfl, HA.out, BW.out, hsz⟩
              case round =>
                clear HA BW hsz
                obtain ⟨i, rfl, hi, rfl, ha, hw, hsz⟩ := hrel
                have HA := Lib.hid ha; have BW := Lib.hid hw
                clear ha hw
                by_cases hil : i < E
                · have hil' : (i : Int) < 1125 := by omega
                  have hrs := rest_step N i
                  have HBi := Lib.hid (HB.out i (by omega))
                  cases hdc : decide (N % 2 ^ i ≠ 0)
                  · rw [hdc, Bool.false_or] at hrs
                    have HRS := Lib.hid hrs
                    have hbl : N / 2 ^ i % 2 < 2 := Nat.mod_lt _ (by omega)
                    obtain ⟨bb, hb⟩ : ∃ b, b = N / 2 ^ i % 2 := ⟨_, rfl⟩
                    rw [← hb] at HBi HRS hbl
                    clear hrs hdc hb
                    obtain rfl | rfl : bb = 0 ∨ bb = 1 := by omega
                    ·
                      go_wp2_with (first
                        | (with_reducible refine wpList_load_row rfl 88 _ rfl w.heap.size rfl 88 (bcells Y).toArray (0, 0) _ HA.out Try.underlying88 rfl (info280' _) ?_)
                        | (refine wpList_load_row_g (by rfl) 88 _ rfl w.heap.size rfl 88 (bcells Y).toArray (0, 0) _ HA.out Try.underlying88 rfl (info280' _) ?_))
                      refine (HBi.out _).mono ?_
                      rintro en wn ⟨rfl, hbn⟩
                      have zz := BW.out.size
                      replace HA := Lib.hid ((hbn.block w.heap.size (by omega)).trans HA.out)
                      replace BW := Lib.hid (BW.out.trans (hbn.mono zz))
                      replace hsz : w.heap.size + 1 ≤ wn.heap.size := Nat.le_trans hsz hbn.size
                      clear hbn zz
                      go_wp2_with fail
                      go_roundw
                      case rel => exact ⟨i + 1, by go_num, by omega, by rw [HRS.out]; rfl, HA.out, BW.out, hsz⟩
                      case measure => (simp [intOf] <;> omega)
                    ·
                      go_wp2_with (first
                        | (with_reducible refine wpList_load_row rfl 88 _ rfl w.heap.size rfl 88 (bcells Y).toArray (0, 0) _ HA.out Try.underlying88 rfl (info280' _) ?_)
                        | (refine wpList_load_row_g (by rfl) 88 _ rfl w.heap.size rfl 88 (bcells Y).toArray (0, 0) _ HA.out Try.underlying88 rfl (info280' _) ?_))
                      refine (HBi.out _).mono ?_
                      rintro en wn ⟨rfl, hbn⟩
                      have zz := BW.out.size
                      replace HA := Lib.hid ((hbn.block w.heap.size (by omega)).trans HA.out)
                      replace BW := Lib.hid (BW.out.trans (hbn.mono zz))
                      replace hsz : w.heap.size + 1 ≤ wn.heap.size := Nat.le_trans hsz hbn.size
                      clear hbn zz
                      go_wp2_with fail
                      go_roundw
                      case rel => exact ⟨i + 1, by go_num, by omega, by rw [HRS.out]; rfl, HA.out, BW.out, hsz⟩
                      case measure => (simp [intOf] <;> omega)
                  · rw [hdc, Bool.true_or] at hrs
                    have HRS := Lib.hid hrs
                    clear hrs hdc
                    go_wp2_with fail
                    go_roundw
                    case rel => exact ⟨i + 1, by go_num, by omega, by rw [HRS.out], HA.out, BW.out, hsz⟩
                    case measure => (simp [intOf] <;> omega)
                · have hiE : E = i := by omega
                  subst hiE
                  have hil2 : ¬ ((E : Int) < 1125) := by omega
                  have hbe := HB.out E (by omega)
                  have hei : ((E : Nat) : Int) = 1125 := by omega
                  rw [hei] at hil2 hbe ⊢
                  have hrb := rne_bitsB N E
                  rw [← HE.out, ← HQQ.out] at hrb
                  have hq0 : q < 9007199254740992 := by rw [HQQ.out]; exact HQ.out
                  have hbl : N / 2 ^ E % 2 < 2 := Nat.mod_lt _ (by omega)
                  obtain ⟨bb, hb⟩ : ∃ b, b = N / 2 ^ E % 2 := ⟨_, rfl⟩
                  obtain ⟨rr, hrr⟩ : ∃ b, b = decide (N % 2 ^ E ≠ 0) := ⟨_, rfl⟩
                  rw [← hrr]
                  rw [← hb, ← hrr] at hrb
                  rw [← hb] at hbe hbl
                  have HSC0 : rne N l = q → Hid (∀ w : World, Calls Try.prog 128 #[.int .i64 q, .int .i64 (-1074)] w fun en w' => en = .returned (.float .f64 r) ∧ w = w') := fun e => Lib.hid fun w => by
                    have h := scaled_any q (-1074) w (by omega) (by omega)
                    have hf := hF.out
                    rw [e] at hf
                    rw [hf] at h
                    exact h
                  have HSC1 : rne N l = q + 1 → Hid (∀ w : World, Calls Try.prog 128 #[.int .i64 ((q : Int) + 1), .int .i64 (-1074)] w fun en w' => en = .returned (.float .f64 r) ∧ w = w') := fun e => Lib.hid fun w => by
                    have h := scaled_any (q + 1) (-1074) w (by omega) (by omega)
                    have hf := hF.out
                    rw [e] at hf
                    rw [hf] at h
                    exact h
                  have HBE := Lib.hid hbe
                  have hqi : (0 : Int) ≤ (q : Int) ∧ (q : Int) < 9007199254740992 := by omega
                  clear hbe hei hb hrr HE
                  obtain rfl | rfl : bb = 0 ∨ bb = 1 := by omega
                  · replace HSC0 := HSC0 (by rw [hrb]; simp)
                    clear HSC1 hrb
                    go_wp2_with (first
                      | (with_reducible refine wpList_load_row rfl 88 _ rfl w.heap.size rfl 88 (bcells Y).toArray (0, 0) _ HA.out Try.underlying88 rfl (info280' _) ?_)
                      | (refine wpList_load_row_g (by rfl) 88 _ rfl w.heap.size rfl 88 (bcells Y).toArray (0, 0) _ HA.out Try.underlying88 rfl (info280' _) ?_))
                    refine (HBE.out _).mono ?_
                    rintro en wn ⟨rfl, hbn⟩
                    have zz := BW.out.size
                    replace HA := Lib.hid ((hbn.block w.heap.size (by omega)).trans HA.out)
                    replace BW := Lib.hid (BW.out.trans (hbn.mono zz))
                    replace hsz : w.heap.size + 1 ≤ wn.heap.size := Nat.le_trans hsz hbn.size
                    clear hbn zz
                    go_wp2_with fail
                    refine (HSC0.out _).mono ?_
                    rintro en wn ⟨rfl, rfl⟩
                    go_wp2_with fail
                    go_ret
                    exact ⟨rfl, BW.out⟩
                  · cases rr
                    · rcases Nat.mod_two_eq_zero_or_one q with hm | hm
                      · replace HSC0 := HSC0 (by rw [hrb, hm]; simp)
                        have hm1 : (q : Int) % 2 = 0 := by omega
                        have hm2 : (q : Int).tmod 2 = 0 := by rw [Int.tmod_eq_emod_of_nonneg (by omega)]; omega
                        clear HSC1 hrb hm
                        go_wp2_with (first
                          | (with_reducible refine wpList_load_row rfl 88 _ rfl w.heap.size rfl 88 (bcells Y).toArray (0, 0) _ HA.out Try.underlying88 rfl (info280' _) ?_)
                          | (refine wpList_load_row_g (by rfl) 88 _ rfl w.heap.size rfl 88 (bcells Y).toArray (0, 0) _ HA.out Try.underlying88 rfl (info280' _) ?_))
                        refine (HBE.out _).mono ?_
                        rintro en wn ⟨rfl, hbn⟩
                        have zz := BW.out.size
                        replace HA := Lib.hid ((hbn.block w.heap.size (by omega)).trans HA.out)
                        replace BW := Lib.hid (BW.out.trans (hbn.mono zz))
                        replace hsz : w.heap.size + 1 ≤ wn.heap.size := Nat.le_trans hsz hbn.size
                        clear hbn zz
                        go_wp2_with fail
                        refine (HSC0.out _).mono ?_
                        rintro en wn ⟨rfl, rfl⟩
                        go_wp2_with fail
                        go_ret
                        exact ⟨rfl, BW.out⟩
                      · replace HSC1 := HSC1 (by rw [hrb, hm]; simp)
                        have hm1 : (q : Int) % 2 = 1 := by omega
                        have hm2 : (q : Int).tmod 2 = 1 := by rw [Int.tmod_eq_emod_of_nonneg (by omega)]; omega
                        clear HSC0 hrb hm
                        go_wp2_with (first
                          | (with_reducible refine wpList_load_row rfl 88 _ rfl w.heap.size rfl 88 (bcells Y).toArray (0, 0) _ HA.out Try.underlying88 rfl (info280' _) ?_)
                          | (refine wpList_load_row_g (by rfl) 88 _ rfl w.heap.size rfl 88 (bcells Y).toArray (0, 0) _ HA.out Try.underlying88 rfl (info280' _) ?_))
                        refine (HBE.out _).mono ?_
                        rintro en wn ⟨rfl, hbn⟩
                        have zz := BW.out.size
                        replace HA := Lib.hid ((hbn.block w.heap.size (by omega)).trans HA.out)
                        replace BW := Lib.hid (BW.out.trans (hbn.mono zz))
                        replace hsz : w.heap.size + 1 ≤ wn.heap.size := Nat.le_trans hsz hbn.size
                        clear hbn zz
                        go_wp2_with fail
                        refine (HSC1.out _).mono ?_
                        rintro en wn ⟨rfl, rfl⟩
                        go_wp2_with fail
                        go_ret
                        exact ⟨rfl, BW.out⟩
                    · replace HSC1 := HSC1 (by rw [hrb]; simp)
                      clear HSC0 hrb
                      go_wp2_with (first
                        | (with_reducible refine wpList_load_row rfl 88 _ rfl w.heap.size rfl 88 (bcells Y).toArray (0, 0) _ HA.out Try.underlying88 rfl (info280' _) ?_)
                        | (refine wpList_load_row_g (by rfl) 88 _ rfl w.heap.size rfl 88 (bcells Y).toArray (0, 0) _ HA.out Try.underlying88 rfl (info280' _) ?_))
                      refine (HBE.out _).mono ?_
                      rintro en wn ⟨rfl, hbn⟩
                      have zz := BW.out.size
                      replace HA := Lib.hid ((hbn.block w.heap.size (by omega)).trans HA.out)
                      replace BW := Lib.hid (BW.out.trans (hbn.mono zz))
                      replace hsz : w.heap.size + 1 ≤ wn.heap.size := Nat.le_trans hsz hbn.size
                      clear hbn zz
                      go_wp2_with fail
                      refine (HSC1.out _).mono ?_
                      rintro en wn ⟨rfl, rfl⟩
                      go_wp2_with fail
                      go_ret
                      exact ⟨rfl, BW.out⟩
        · obtain ⟨l, hl⟩ : ∃ l : Nat, (k : Int) - 52 = (l : Int) := ⟨k - 52, by omega⟩
          have hF : Hid (scV (rne N l) ((l : Int) + -2200) = r) := Lib.hid (by
            rw [show max ((k : Int) - 52) 1126 = (l : Int) by omega] at hfin
            rw [show (-2200 : Int) + (l : Int) = (l : Int) + -2200 by omega] at hfin
            exact hfin)
          have hlow' : ¬ (l : Int) + -2200 < -1074 := by omega
          have hlk : k + 1 ≤ l + 53 := by omega
          obtain ⟨E, hE⟩ : ∃ E, l = E + 1 := ⟨l - 1, by omega⟩
          have hl26 : (1126 : Int) ≤ (l : Int) := by omega
          have hE2 : (l : Int) - 1 = (E : Int) := by omega
          have HE := Lib.hid hE
          clear hfin hlow hE
          go_wp2_with (first
            | (with_reducible refine wpList_load_row rfl 88 _ rfl w.heap.size rfl 88 (bcells Y).toArray (0, 0) _ HA.out Try.underlying88 rfl (info280' _) ?_)
            | (refine wpList_load_row_g (by rfl) 88 _ rfl w.heap.size rfl 88 (bcells Y).toArray (0, 0) _ HA.out Try.underlying88 rfl (info280' _) ?_))
          refine (HBk.out _).mono ?_
          rintro en wn ⟨rfl, hbn⟩
          have zz := BW.out.size
          replace HA := Lib.hid ((hbn.block w.heap.size (by omega)).trans HA.out)
          replace BW := Lib.hid (BW.out.trans (hbn.mono zz))
          replace hsz : w.heap.size + 1 ≤ wn.heap.size := Nat.le_trans hsz hbn.size
          clear hbn zz
          clear HBk
          have hq53 : N / 2 ^ l < 9007199254740992 := by
            refine Nat.div_lt_of_lt_mul ?_
            rw [show (9007199254740992 : Nat) = 2 ^ 53 from rfl, ← Nat.pow_add]
            exact Nat.lt_of_lt_of_le HT1.out (Nat.pow_le_pow_right (by omega) (by omega))
          have HQ := Lib.hid hq53
          have HK1 : Hid (N / 2 ^ (k + 1) = 0) := Lib.hid (Nat.div_eq_of_lt HT1.out)
          clear hq53 hlk
          go_wp2_with fail
          go_loopw [5, 6] (fun mv t wr => ∃ j : Nat, t = .int .i64 ((j : Int) - 1) ∧ j ≤ k + 1 ∧ (l ≤ j ∨ j = k + 1) ∧ mv = .int .i64 (N / 2 ^ j : Nat) ∧ wr.heap[w.heap.size]? = some (.cells (bcells Y).toArray 88 (0, 0)) ∧ Below w.heap.size w wr ∧ w.heap.size + 1 ≤ wr.heap.size) (fun _ t _ => (intOf t + 1).toNat)
          case atStart => exact ⟨k + 1, by go_num, Nat.le_refl _, .inr rfl, by rw [HK1.out]; rfl, HA.out, BW.out, hsz⟩
          case round =>
            clear HA BW hsz
            obtain ⟨j, rfl, hj, hjd, rfl, ha, hw, hsz⟩ := hrel
            have HA := Lib.hid ha; have BW := Lib.hid hw
            clear ha hw
            by_cases hc : l < j
            · rcases j with _ | j
              · omega
              have e : ((j + 1 : Nat) : Int) - 1 = (j : Int) := by omega
              rw [e]
              have hge : (l : Int) ≤ (j : Int) := by omega
              have hj0 : (0 : Int) ≤ (j : Int) := by omega
              have hst := div_shift N j
              have hnb : N / 2 ^ (j + 1) < 9007199254740992 := Nat.lt_of_le_of_lt (Nat.div_le_div_left (Nat.pow_le_pow_right (by omega) (by omega)) (Nat.two_pow_pos _)) HQ.out
              have hbl : N / 2 ^ j % 2 < 2 := Nat.mod_lt _ (by omega)
              have HBj := Lib.hid (HB.out j (by omega))
              obtain ⟨bb, hb⟩ : ∃ b, b = N / 2 ^ j % 2 := ⟨_, rfl⟩
              obtain ⟨n1, hn1⟩ : ∃ n, n = N / 2 ^ (j + 1) := ⟨_, rfl⟩
              rw [← hb] at hst hbl HBj
              rw [← hn1] at hst hnb ⊢
              have HST := Lib.hid hst
              have hbi : (0 : Int) ≤ (bb : Int) ∧ (bb : Int) < 2 := by omega
              have hni : (0 : Int) ≤ (n1 : Int) ∧ (n1 : Int) < 9007199254740992 := by omega
              clear e hb hn1 hst hnb hbl
              go_wp2_with (first
                | (with_reducible refine wpList_load_row rfl 88 _ rfl w.heap.size rfl 88 (bcells Y).toArray (0, 0) _ HA.out Try.underlying88 rfl (info280' _) ?_)
                | (refine wpList_load_row_g (by rfl) 88 _ rfl w.heap.size rfl 88 (bcells Y).toArray (0, 0) _ HA.out Try.underlying88 rfl (info280' _) ?_))
              refine (HBj.out _).mono ?_
              rintro en wn ⟨rfl, hbn⟩
              have zz := BW.out.size
              replace HA := Lib.hid ((hbn.block w.heap.size (by omega)).trans HA.out)
              replace BW := Lib.hid (BW.out.trans (hbn.mono zz))
              replace hsz : w.heap.size + 1 ≤ wn.heap.size := Nat.le_trans hsz hbn.size
              clear hbn zz
              go_wp2_with fail
              go_roundw
              case rel => exact ⟨j, by go_num, by omega, .inl (by omega), by rw [HST.out]; first | rfl | simp, HA.out, BW.out, hsz⟩
              case measure => (simp [intOf] <;> omega)
            · have hlt : (j : Int) - 1 < (l : Int) := by omega
              have hND : N / 2 ^ j = N / 2 ^ l := by
                rcases hjd with h | h
                · rw [show j = l by omega]
                · subst h
                  have h1 := HK1.out
                  have h2 : N / 2 ^ l ≤ N / 2 ^ (k + 1) := Nat.div_le_div_left (Nat.pow_le_pow_right (by omega) (by omega)) (Nat.two_pow_pos _)
                  rw [h1] at h2
                  rw [h1, Nat.le_zero.1 h2]
              rw [hND]
              clear hND
              obtain ⟨q, hq⟩ : ∃ q, q = N / 2 ^ l := ⟨_, rfl⟩
              rw [← hq]
              have HQQ := Lib.hid hq
              clear hq hc hjd
              go_wp2_with fail
              clear hlt hlow'
              go_loopw [7, 8] (fun rv t wr => ∃ i : Nat, t = .int .i64 i ∧ i ≤ E ∧ rv = .bool (decide (N % 2 ^ i ≠ 0)) ∧ wr.heap[w.heap.size]? = some (.cells (bcells Y).toArray 88 (0, 0)) ∧ Below w.heap.size w wr ∧ w.heap.size + 1 ≤ wr.heap.size) (fun _ t _ => E - (intOf t).toNat)
              case atStart => exact ⟨0, rfl, by omega, by rw [Nat.pow_zero, Nat.mod_one]; rfl, HA.out, BW.out, hsz⟩
              case round =>
                clear HA BW hsz
                obtain ⟨i, rfl, hi, rfl, ha, hw, hsz⟩ := hrel
                have HA := Lib.hid ha; have BW := Lib.hid hw
                clear ha hw
                by_cases hil : i < E
                · have hil' : (i : Int) < (E : Int) := by omega
                  have hrs := rest_step N i
                  have HBi := Lib.hid (HB.out i (by omega))
                  cases hdc : decide (N % 2 ^ i ≠ 0)
                  · rw [hdc, Bool.false_or] at hrs
                    have HRS := Lib.hid hrs
                    have hbl : N / 2 ^ i % 2 < 2 := Nat.mod_lt _ (by omega)
                    obtain ⟨bb, hb⟩ : ∃ b, b = N / 2 ^ i % 2 := ⟨_, rfl⟩
                    rw [← hb] at HBi HRS hbl
                    clear hrs hdc hb
                    obtain rfl | rfl : bb = 0 ∨ bb = 1 := by omega
                    ·
                      go_wp2_with (first
                        | (with_reducible refine wpList_load_row rfl 88 _ rfl w.heap.size rfl 88 (bcells Y).toArray (0, 0) _ HA.out Try.underlying88 rfl (info280' _) ?_)
                        | (refine wpList_load_row_g (by rfl) 88 _ rfl w.heap.size rfl 88 (bcells Y).toArray (0, 0) _ HA.out Try.underlying88 rfl (info280' _) ?_))
                      refine (HBi.out _).mono ?_
                      rintro en wn ⟨rfl, hbn⟩
                      have zz := BW.out.size
                      replace HA := Lib.hid ((hbn.block w.heap.size (by omega)).trans HA.out)
                      replace BW := Lib.hid (BW.out.trans (hbn.mono zz))
                      replace hsz : w.heap.size + 1 ≤ wn.heap.size := Nat.le_trans hsz hbn.size
                      clear hbn zz
                      go_wp2_with fail
                      go_roundw
                      case rel => exact ⟨i + 1, by go_num, by omega, by rw [HRS.out]; rfl, HA.out, BW.out, hsz⟩
                      case measure => (simp [intOf] <;> omega)
                    ·
                      go_wp2_with (first
                        | (with_reducible refine wpList_load_row rfl 88 _ rfl w.heap.size rfl 88 (bcells Y).toArray (0, 0) _ HA.out Try.underlying88 rfl (info280' _) ?_)
                        | (refine wpList_load_row_g (by rfl) 88 _ rfl w.heap.size rfl 88 (bcells Y).toArray (0, 0) _ HA.out Try.underlying88 rfl (info280' _) ?_))
                      refine (HBi.out _).mono ?_
                      rintro en wn ⟨rfl, hbn⟩
                      have zz := BW.out.size
                      replace HA := Lib.hid ((hbn.block w.heap.size (by omega)).trans HA.out)
                      replace BW := Lib.hid (BW.out.trans (hbn.mono zz))
                      replace hsz : w.heap.size + 1 ≤ wn.heap.size := Nat.le_trans hsz hbn.size
                      clear hbn zz
                      go_wp2_with fail
                      go_roundw
                      case rel => exact ⟨i + 1, by go_num, by omega, by rw [HRS.out]; rfl, HA.out, BW.out, hsz⟩
                      case measure => (simp [intOf] <;> omega)
                  · rw [hdc, Bool.true_or] at hrs
                    have HRS := Lib.hid hrs
                    clear hrs hdc
                    go_wp2_with fail
                    go_roundw
                    case rel => exact ⟨i + 1, by go_num, by omega, by rw [HRS.out], HA.out, BW.out, hsz⟩
                    case measure => (simp [intOf] <;> omega)
                · have hiE : E = i := by omega
                  subst hiE
                  have hil2 : ¬ ((E : Int) < (E : Int)) := by omega
                  have hbe := HB.out E (by omega)
                  have hei : ((E : Nat) : Int) = (E : Int) := by omega
                  rw [hei] at hil2 hbe ⊢
                  have hrb := rne_bitsB N E
                  rw [← HE.out, ← HQQ.out] at hrb
                  have hq0 : q < 9007199254740992 := by rw [HQQ.out]; exact HQ.out
                  have hbl : N / 2 ^ E % 2 < 2 := Nat.mod_lt _ (by omega)
                  obtain ⟨bb, hb⟩ : ∃ b, b = N / 2 ^ E % 2 := ⟨_, rfl⟩
                  obtain ⟨rr, hrr⟩ : ∃ b, b = decide (N % 2 ^ E ≠ 0) := ⟨_, rfl⟩
                  rw [← hrr]
                  rw [← hb, ← hrr] at hrb
                  rw [← hb] at hbe hbl
                  have HSC0 : rne N l = q → Hid (∀ w : World, Calls Try.prog 128 #[.int .i64 q, .int .i64 ((l : Int) + -2200)] w fun en w' => en = .returned (.float .f64 r) ∧ w = w') := fun e => Lib.hid fun w => by
                    have h := scaled_any q ((l : Int) + -2200) w (by omega) (by omega)
                    have hf := hF.out
                    rw [e] at hf
                    rw [hf] at h
                    exact h
                  have HSC1 : rne N l = q + 1 → Hid (∀ w : World, Calls Try.prog 128 #[.int .i64 ((q : Int) + 1), .int .i64 ((l : Int) + -2200)] w fun en w' => en = .returned (.float .f64 r) ∧ w = w') := fun e => Lib.hid fun w => by
                    have h := scaled_any (q + 1) ((l : Int) + -2200) w (by omega) (by omega)
                    have hf := hF.out
                    rw [e] at hf
                    rw [hf] at h
                    exact h
                  have HBE := Lib.hid hbe
                  have hqi : (0 : Int) ≤ (q : Int) ∧ (q : Int) < 9007199254740992 := by omega
                  clear hbe hei hb hrr HE
                  obtain rfl | rfl : bb = 0 ∨ bb = 1 := by omega
                  · replace HSC0 := HSC0 (by rw [hrb]; simp)
                    clear HSC1 hrb
                    go_wp2_with (first
                      | (with_reducible refine wpList_load_row rfl 88 _ rfl w.heap.size rfl 88 (bcells Y).toArray (0, 0) _ HA.out Try.underlying88 rfl (info280' _) ?_)
                      | (refine wpList_load_row_g (by rfl) 88 _ rfl w.heap.size rfl 88 (bcells Y).toArray (0, 0) _ HA.out Try.underlying88 rfl (info280' _) ?_))
                    refine (HBE.out _).mono ?_
                    rintro en wn ⟨rfl, hbn⟩
                    have zz := BW.out.size
                    replace HA := Lib.hid ((hbn.block w.heap.size (by omega)).trans HA.out)
                    replace BW := Lib.hid (BW.out.trans (hbn.mono zz))
                    replace hsz : w.heap.size + 1 ≤ wn.heap.size := Nat.le_trans hsz hbn.size
                    clear hbn zz
                    go_wp2_with fail
                    refine (HSC0.out _).mono ?_
                    rintro en wn ⟨rfl, rfl⟩
                    go_wp2_with fail
                    go_ret
                    exact ⟨rfl, BW.out⟩
                  · cases rr
                    · rcases Nat.mod_two_eq_zero_or_one q with hm | hm
                      · replace HSC0 := HSC0 (by rw [hrb, hm]; simp)
                        have hm1 : (q : Int) % 2 = 0 := by omega
                        have hm2 : (q : Int).tmod 2 = 0 := by rw [Int.tmod_eq_emod_of_nonneg (by omega)]; omega
                        clear HSC1 hrb hm
                        go_wp2_with (first
                          | (with_reducible refine wpList_load_row rfl 88 _ rfl w.heap.size rfl 88 (bcells Y).toArray (0, 0) _ HA.out Try.underlying88 rfl (info280' _) ?_)
                          | (refine wpList_load_row_g (by rfl) 88 _ rfl w.heap.size rfl 88 (bcells Y).toArray (0, 0) _ HA.out Try.underlying88 rfl (info280' _) ?_))
                        refine (HBE.out _).mono ?_
                        rintro en wn ⟨rfl, hbn⟩
                        have zz := BW.out.size
                        replace HA := Lib.hid ((hbn.block w.heap.size (by omega)).trans HA.out)
                        replace BW := Lib.hid (BW.out.trans (hbn.mono zz))
                        replace hsz : w.heap.size + 1 ≤ wn.heap.size := Nat.le_trans hsz hbn.size
                        clear hbn zz
                        go_wp2_with fail
                        refine (HSC0.out _).mono ?_
                        rintro en wn ⟨rfl, rfl⟩
                        go_wp2_with fail
                        go_ret
                        exact ⟨rfl, BW.out⟩
                      · replace HSC1 := HSC1 (by rw [hrb, hm]; simp)
                        have hm1 : (q : Int) % 2 = 1 := by omega
                        have hm2 : (q : Int).tmod 2 = 1 := by rw [Int.tmod_eq_emod_of_nonneg (by omega)]; omega
                        clear HSC0 hrb hm
                        go_wp2_with (first
                          | (with_reducible refine wpList_load_row rfl 88 _ rfl w.heap.size rfl 88 (bcells Y).toArray (0, 0) _ HA.out Try.underlying88 rfl (info280' _) ?_)
                          | (refine wpList_load_row_g (by rfl) 88 _ rfl w.heap.size rfl 88 (bcells Y).toArray (0, 0) _ HA.out Try.underlying88 rfl (info280' _) ?_))
                        refine (HBE.out _).mono ?_
                        rintro en wn ⟨rfl, hbn⟩
                        have zz := BW.out.size
                        replace HA := Lib.hid ((hbn.block w.heap.size (by omega)).trans HA.out)
                        replace BW := Lib.hid (BW.out.trans (hbn.mono zz))
                        replace hsz : w.heap.size + 1 ≤ wn.heap.size := Nat.le_trans hsz hbn.size
                        clear hbn zz
                        go_wp2_with fail
                        refine (HSC1.out _).mono ?_
                        rintro en wn ⟨rfl, rfl⟩
                        go_wp2_with fail
                        go_ret
                        exact ⟨rfl, BW.out⟩
                    · replace HSC1 := HSC1 (by rw [hrb]; simp)
                      clear HSC0 hrb
                      go_wp2_with (first
                        | (with_reducible refine wpList_load_row rfl 88 _ rfl w.heap.size rfl 88 (bcells Y).toArray (0, 0) _ HA.out Try.underlying88 rfl (info280' _) ?_)
                        | (refine wpList_load_row_g (by rfl) 88 _ rfl w.heap.size rfl 88 (bcells Y).toArray (0, 0) _ HA.out Try.underlying88 rfl (info280' _) ?_))
                      refine (HBE.out _).mono ?_
                      rintro en wn ⟨rfl, hbn⟩
                      have zz := BW.out.size
                      replace HA := Lib.hid ((hbn.block w.heap.size (by omega)).trans HA.out)
                      replace BW := Lib.hid (BW.out.trans (hbn.mono zz))
                      replace hsz : w.heap.size + 1 ≤ wn.heap.size := Nat.le_trans hsz hbn.size
                      clear hbn zz
                      go_wp2_with fail
                      refine (HSC1.out _).mono ?_
                      rintro en wn ⟨rfl, rfl⟩
                      go_wp2_with fail
                      go_ret
                      exact ⟨rfl, BW.out⟩
end Go.Proofs.Ytjakjnmfndfehaa

namespace Go.Pst
open Go Ieee Go.Proofs.Ytjakjnmfndfehaa
set_option linter.unusedVariables false
theorem fgt_max {b : Nat} (hb : b < 2 ^ 64) : fgt .f64 b 9218868437227405311 = (infB b && !negB b) := by
  rw [fgt64, show nan64 9218868437227405311 = false by decide, show key64 9218868437227405311 = 9218868437227405311 from rfl]
  unfold nan64 infB key64 negB
  rw [Bool.eq_iff_iff]
  rcases Nat.lt_or_ge b 9223372036854775808 with h | h
  · rw [if_neg (by omega)]; simp; omega
  · rw [if_pos (by omega)]; simp; omega
theorem flt_min {b : Nat} (hb : b < 2 ^ 64) : flt .f64 b 18442240474082181119 = (infB b && negB b) := by
  rw [flt64, show nan64 18442240474082181119 = false by decide, show key64 18442240474082181119 = -9218868437227405311 from rfl]
  unfold nan64 infB key64 negB
  rw [Bool.eq_iff_iff]
  rcases Nat.lt_or_ge b 9223372036854775808 with h | h
  · rw [if_neg (by omega)]; simp; omega
  · rw [if_pos (by omega)]; simp; omega
theorem top_neg {b : Nat} (hb : b < 2 ^ 64) : (b : Int) / 9223372036854775808 = if negB b then 1 else 0 := by
  unfold negB
  split
  · rename_i h; have := of_decide_eq_true h; omega
  · rename_i h; have := of_decide_eq_false (by simpa using h : decide (9223372036854775808 ≤ b) = false); omega
def outV (S : Int) (all : Bool) : Nat := if S = 0 then (if all then 9223372036854775808 else 0) else if S < 0 then flipF (rndN 52 11 S.natAbs (-2200)) else rndN 52 11 S.natAbs (-2200)
end Go.Pst
namespace Go.Proofs.Ytjakjnmfndfehaa
open Go.RowKit Go.Pst
set_option maxRecDepth 20000
set_option linter.unusedSimpArgs false
set_option linter.unusedVariables false
attribute [local go_sem] m64bits m64from run_fneg

theorem pnone_any (b : Nat) (w : World) : Calls Try.prog 79 #[.float .f64 b] w fun en w' => en = .returned (.bool (nan64 b)) ∧ w = w' := by
  have h := fne_self b
  go_enter Try.func79, Try.ntmps79
  go_wp2
  go_ret
  exact ⟨by first | rfl | simp [h], rfl⟩
theorem pinf_any (b : Nat) (w : World) (hb : b < 2 ^ 64) : Calls Try.prog 81 #[.float .f64 b] w fun en w' => en = .returned (.bool (infB b)) ∧ w = w' := by
  have h1 := fgt_max hb
  have h2 := flt_min hb
  generalize infB b = i at *
  generalize negB b = n at *
  clear hb
  cases i <;> cases n <;> (
    go_enter Try.func81, Try.ntmps81
    go_wp2_with fail
    go_ret
    exact ⟨rfl, rfl⟩)
theorem pneg_any (b : Nat) (w : World) (hb : b < 2 ^ 64) : Calls Try.prog 82 #[.float .f64 b] w fun en w' => en = .returned (.bool (negB b)) ∧ w = w' := by
  have h1 := top_neg hb
  generalize negB b = n at *
  clear hb
  cases n
  · rw [if_neg Bool.false_ne_true] at h1
    go_enter Try.func82, Try.ntmps82
    go_wp2_with fail
    go_ret
    exact ⟨rfl, rfl⟩
  · rw [if_pos rfl] at h1
    go_enter Try.func82, Try.ntmps82
    go_wp2_with fail
    go_ret
    exact ⟨rfl, rfl⟩
theorem pparts_any (b : Nat) (w : World) (hb : b < 2 ^ 64) : Calls Try.prog 83 #[.float .f64 b] w fun en w' => en = .returned (.tuple #[.int .u64 (mantB b), .int .i64 ((placeB b : Int) - 1074), .bool (negB b)]) ∧ w = w' := by
  have h1 := top_neg hb
  have hE := u64_field b hb
  have hM : bits .and .u64 (b : Int) 4503599627370495 = ((b % 4503599627370496 : Nat) : Int) := and_mask (b := b) (n := 52) hb (by omega)
  have hO : bits .or .u64 ((b % 4503599627370496 : Nat) : Int) 4503599627370496 = ((4503599627370496 + b % 4503599627370496 : Nat) : Int) := by
    have := or_disj2 (x := b % 4503599627370496) (y := 1) (n := 52) (by omega) (by omega) (by omega)
    have e := or64 (a := b % 4503599627370496) (b := 4503599627370496) (by omega) (by omega)
    rw [show ((4503599627370496 : Nat) : Int) = 4503599627370496 from rfl] at e
    rw [e, Nat.or_comm]
    have h2 := Nat.two_pow_add_eq_or_of_lt (i := 52) (b := b % 4503599627370496) (by omega) 1
    rw [Nat.mul_one] at h2
    rw [show (4503599627370496 : Nat) = 2 ^ 52 from rfl] at h2 ⊢
    rw [← h2]
  unfold mantB placeB
  rw [show b / 4503599627370496 % 2048 = expF b from rfl] at hE
  have hE2 : expF b < 2048 := Nat.mod_lt _ (by omega)
  have hM2 : b % 4503599627370496 < 4503599627370496 := Nat.mod_lt _ (by omega)
  generalize b % 4503599627370496 = m at *
  generalize negB b = n at *
  generalize expF b = e at *
  clear hb
  by_cases h0 : e = 0
  · subst h0
    rw [if_pos rfl, show (((0 - 1 : Nat) : Int) - 1074) = -1074 from rfl]
    rw [show ((0 : Nat) : Int) = 0 from rfl] at hE
    cases n
    · rw [if_neg Bool.false_ne_true] at h1
      go_enter Try.func83, Try.ntmps83
      go_wp2_with fail
      go_ret3
      exact ⟨rfl, rfl⟩
    · rw [if_pos rfl] at h1
      go_enter Try.func83, Try.ntmps83
      go_wp2_with fail
      go_ret3
      exact ⟨rfl, rfl⟩
  · rw [if_neg h0, show (((e - 1 : Nat) : Int) - 1074) = (e : Int) - 1075 by omega]
    have h4 : ¬ (e : Int) = 0 := by omega
    have h4' : ((e : Int) == 0) = false := by simp; omega
    have h5 : 0 ≤ (e : Int) ∧ (e : Int) < 2048 := by omega
    cases n
    · rw [if_neg Bool.false_ne_true] at h1
      go_enter Try.func83, Try.ntmps83
      go_wp2_with fail
      go_ret3
      exact ⟨rfl, rfl⟩
    · rw [if_pos rfl] at h1
      go_enter Try.func83, Try.ntmps83
      go_wp2_with fail
      go_ret3
      exact ⟨rfl, rfl⟩
theorem pNone_any (w : World) : Calls Try.prog 80 #[] w fun en w' => en = .returned (.float .f64 9218868437227405313) ∧ w = w' := by
  go_enter Try.func80, Try.ntmps80
  go_wp2_with fail
  go_ret
  exact ⟨rfl, rfl⟩

set_option maxHeartbeats 4000000 in
theorem out_any (X : Nat → Int) (all : Bool) (b : Int) (w : World) (hb : 0 ≤ b ∧ b ≤ 1152921504606846976) (hX : ∀ i, i < 280 → -b ≤ X i ∧ X i ≤ b) (hs : (bv X 280).natAbs < D28) :
    Calls Try.prog 86 #[.agg (bcells X).toArray, .bool all] w fun en w' => en = .returned (.float .f64 (outV (bv X 280) all)) ∧ Below w.heap.size w w' := by
  have HST := Lib.hid fun w => settled_any X b w hb hX hs
  obtain ⟨S, hS⟩ : ∃ S, S = bv X 280 := ⟨_, rfl⟩
  rw [← hS] at HST ⊢
  have HN := Lib.hid fun (Y : Nat → Int) (w : World) (h1 : IsDig Y) (h2 : bv Y 280 = (S.natAbs : Int)) => rounded_any Y S.natAbs w h1 (by have := dv_bv (Y := Y) 280 h1; omega)
  obtain ⟨v, hv⟩ : ∃ v, v = outV S all := ⟨_, rfl⟩
  rw [← hv]
  have HV := Lib.hid hv
  clear hv hs hX hS
  go_enter Try.func86, Try.ntmps86
  go_wp2_with (with_reducible refine wpList_load_row rfl 88 _ rfl w.heap.size rfl 88 (bcells X).toArray (0, 0) _ (heap_alloc_new w _) Try.underlying88 rfl (info280' _) ?_)
  refine (HST.out _).mono ?_
  rintro en wn ⟨Y, rfl, hY, hbv, hbn⟩
  replace hbn : Below w.heap.size w wn := ((Below.refl _ _).alloc (Nat.le_refl _) _).trans (hbn.mono (by simp))
  have hsz : w.heap.size ≤ wn.heap.size := hbn.size
  have BW := Lib.hid hbn
  have HRN := Lib.hid fun w => HN.out Y w hY hbv
  have HA2 : Hid (∀ cs : Array Value, ((wn.alloc (.cells cs 88)).setRow wn.heap.size (bcells Y).toArray).heap[wn.heap.size]? = some (.cells (bcells Y).toArray 88 (0, 0))) := Lib.hid fun cs => setRow_heap _ _ cs _ _ _ (heap_alloc_new _ _)
  have BW2 : Hid (∀ cs : Array Value, Below w.heap.size w ((wn.alloc (.cells cs 88)).setRow wn.heap.size (bcells Y).toArray)) := Lib.hid fun cs => below_setRow (BW.out.alloc hsz _) hsz
  have hs2 : ∀ cs : Array Value, w.heap.size ≤ ((wn.alloc (.cells cs 88)).setRow wn.heap.size (bcells Y).toArray).heap.size := fun cs => by rw [setRow_size]; simp; omega
  have HS2 := Lib.hid hs2
  have hsg : sgnI S = if S < 0 then -1 else if S = 0 then 0 else 1 := rfl
  clear hbn hbv hY HN HST hs2
  have hov : outV S all = if S = 0 then (if all then 9223372036854775808 else 0) else if S < 0 then flipF (rndN 52 11 S.natAbs (-2200)) else rndN 52 11 S.natAbs (-2200) := rfl
  rw [← HV.out] at hov
  by_cases h0 : S = 0
  · rw [if_neg (by omega), if_pos h0] at hsg
    rw [if_pos h0] at hov
    have hr0 : rndN 52 11 S.natAbs (-2200) = 0 := by rw [h0]; unfold rndN; rw [if_pos (by rfl)]
    rw [hr0] at HRN
    rw [hsg]
    clear hsg hr0 h0
    cases all
    · have HVV := Lib.hid (hov.trans (if_neg Bool.false_ne_true))
      clear hov HV
      go_wp2_with (first
        | (with_reducible refine wpList_load_row rfl 88 _ rfl wn.heap.size rfl 88 (bcells Y).toArray (0, 0) _ (HA2.out _) Try.underlying88 rfl (info280' _) ?_)
        | (with_reducible refine wpList_store_row rfl 88 _ _ rfl wn.heap.size (bcells Y).toArray rfl rfl 88 (bcells fun _ => 0).toArray (by rw [heap_alloc_new, bcells_zero]) (info280' _) (by simp [bcells]) (all_oneCell_toArray (bcells_one _)) ?_))
      refine (HRN.out _).mono ?_
      rintro en wm ⟨rfl, hbm⟩
      have B3 := Lib.hid ((BW2.out _).trans (hbm.mono (HS2.out _)))
      clear hbm
      go_wp2_with fail
      go_ret
      exact ⟨congrArg (fun x => Ending.returned (Value.float .f64 x)) HVV.out.symm, B3.out⟩
    · have HVV := Lib.hid (hov.trans (if_pos rfl))
      clear hov HV
      go_wp2_with (first
        | (with_reducible refine wpList_load_row rfl 88 _ rfl wn.heap.size rfl 88 (bcells Y).toArray (0, 0) _ (HA2.out _) Try.underlying88 rfl (info280' _) ?_)
        | (with_reducible refine wpList_store_row rfl 88 _ _ rfl wn.heap.size (bcells Y).toArray rfl rfl 88 (bcells fun _ => 0).toArray (by rw [heap_alloc_new, bcells_zero]) (info280' _) (by simp [bcells]) (all_oneCell_toArray (bcells_one _)) ?_))
      go_ret
      exact ⟨congrArg (fun x => Ending.returned (Value.float .f64 x)) HVV.out.symm, BW2.out _⟩
  · rw [if_neg h0] at hov
    rw [if_neg h0] at hsg
    obtain ⟨r, hr⟩ : ∃ r, r = rndN 52 11 S.natAbs (-2200) := ⟨_, rfl⟩
    rw [← hr] at hov HRN
    clear hr
    by_cases h1 : S < 0
    · rw [if_pos h1] at hsg hov
      rw [hsg]
      have HVV := Lib.hid hov
      clear hsg h1 h0 hov HV
      cases all <;> (
      go_wp2_with (first
        | (with_reducible refine wpList_load_row rfl 88 _ rfl wn.heap.size rfl 88 (bcells Y).toArray (0, 0) _ (HA2.out _) Try.underlying88 rfl (info280' _) ?_)
        | (with_reducible refine wpList_store_row rfl 88 _ _ rfl wn.heap.size (bcells Y).toArray rfl rfl 88 (bcells fun _ => 0).toArray (by rw [heap_alloc_new, bcells_zero]) (info280' _) (by simp [bcells]) (all_oneCell_toArray (bcells_one _)) ?_))
      refine (HRN.out _).mono ?_
      rintro en wm ⟨rfl, hbm⟩
      have B3 := Lib.hid ((BW2.out _).trans (hbm.mono (HS2.out _)))
      clear hbm
      go_wp2_with fail
      go_ret
      exact ⟨congrArg (fun x => Ending.returned (Value.float .f64 x)) HVV.out.symm, B3.out⟩)
    · rw [if_neg h1] at hsg hov
      rw [hsg]
      have HVV := Lib.hid hov
      clear hsg h1 h0 hov HV
      cases all <;> (
      go_wp2_with (first
        | (with_reducible refine wpList_load_row rfl 88 _ rfl wn.heap.size rfl 88 (bcells Y).toArray (0, 0) _ (HA2.out _) Try.underlying88 rfl (info280' _) ?_)
        | (with_reducible refine wpList_store_row rfl 88 _ _ rfl wn.heap.size (bcells Y).toArray rfl rfl 88 (bcells fun _ => 0).toArray (by rw [heap_alloc_new, bcells_zero]) (info280' _) (by simp [bcells]) (all_oneCell_toArray (bcells_one _)) ?_))
      refine (HRN.out _).mono ?_
      rintro en wm ⟨rfl, hbm⟩
      have B3 := Lib.hid ((BW2.out _).trans (hbm.mono (HS2.out _)))
      clear hbm
      go_wp2_with fail
      go_ret
      exact ⟨congrArg (fun x => Ending.returned (Value.float .f64 x)) HVV.out.symm, B3.out⟩)
end Go.Proofs.Ytjakjnmfndfehaa

namespace Go.Pst
open Go Ieee Go.Proofs.Ytjakjnmfndfehaa
set_option linter.unusedVariables false
def K11 : Nat := 1126
theorem bv_zero : ∀ n, bv (fun _ => 0) n = 0
  | 0 => rfl
  | n + 1 => by unfold bv; rw [bv_zero n, Int.zero_mul, Int.add_zero]
theorem exN_mono {f : Nat → Nat} {k : Nat} (h : exN f k = true) : ∀ n, k ≤ n → exN f n = true
  | 0, hn => by rw [show (0 : Nat) = k by omega]; exact h
  | n + 1, hn => by
    by_cases e : k = n + 1
    · rw [← e]; exact h
    · unfold exN; rw [exN_mono h n (by omega)]; rfl
theorem exS_all {f : Nat → Nat} : ∀ n, exN f n = false → exS f n = decide (0 < n)
  | 0, _ => rfl
  | n + 1, h => by
    unfold exN at h
    rw [Bool.or_eq_false_iff] at h
    unfold exS
    rw [h.2]; simp
/-- The document's answer: the exact sum, or its own bits of no number. -/
def rexV (f : Nat → Nat) (n : Nat) : Nat := if exN f n || (exP f n && exL f n) then 9218868437227405313 else exactV f n
theorem wrd_false (r : Nat) : wrd false r = r := by unfold wrd; rw [if_neg Bool.false_ne_true]
theorem out_gen {S : Int} {all : Bool} (Z : Nat) (hZ : 0 < Z) (hr : rndN 52 11 (S.natAbs * Z) (-2200) = rndN 52 11 S.natAbs (-1074)) : outV (S * (Z : Int)) all = if S = 0 then (if all then 9223372036854775808 else 0) else fvN S 1074 := by
  have hp : (0 : Int) < (Z : Int) := by omega
  have h0 : S * (Z : Int) = 0 ↔ S = 0 := by
    constructor
    · intro h; rcases Int.mul_eq_zero.1 h with h | h
      · exact h
      · omega
    · intro h; rw [h, Int.zero_mul]
  have h1 : S * (Z : Int) < 0 ↔ S < 0 := by
    constructor
    · intro h; rcases Int.lt_or_le S 0 with h2 | h2
      · exact h2
      · have := Int.mul_nonneg h2 (Int.le_of_lt hp); omega
    · intro h; exact Int.mul_neg_of_neg_of_pos h hp
  unfold outV fvN
  by_cases h : S = 0
  · rw [if_pos (h0.2 h), if_pos h]
  · rw [if_neg (mt h0.1 h), if_neg h]
    have hn : (S * (Z : Int)).natAbs = S.natAbs * Z := by rw [Int.natAbs_mul, Int.natAbs_natCast]
    rw [hn, hr]
    have hl := rnd_lt63 S.natAbs (-1074)
    generalize rndN 52 11 S.natAbs (-1074) = r at *
    by_cases h2 : S < 0
    · rw [if_pos (h1.2 h2), decide_eq_true h2]
      exact flipF_low hl
    · rw [if_neg (mt h1.1 h2), decide_eq_false h2, wrd_false]
theorem out_exact {S : Int} {all : Bool} : outV (S * ((2 ^ K11 : Nat) : Int)) all = if S = 0 then (if all then 9223372036854775808 else 0) else fvN S 1074 := by
  have hr := rnd_shift 52 11 S.natAbs K11 (-1074)
  rw [show (-1074 : Int) - (K11 : Int) = -2200 by decide] at hr
  exact out_gen _ (Nat.two_pow_pos K11) hr
theorem small_out {f : Nat → Nat} {n : Nat} (hn : n ≤ 65536) (h : ∀ j, j < n → f j < 2 ^ 64) : (exSum f n * ((2 ^ K11 : Nat) : Int)).natAbs < D28 := by
  have h1 := exSum_bd n h
  have h2 : n * 2 ^ K21 ≤ 2 ^ 16 * 2 ^ K21 := Nat.mul_le_mul_right _ (by omega)
  rw [← Nat.pow_add] at h2
  have h3 := Nat.mul_le_mul_right (2 ^ K11) (Nat.le_trans h1 h2)
  rw [← Nat.pow_add] at h3
  rw [Int.natAbs_mul, Int.natAbs_natCast]
  refine Nat.lt_of_le_of_lt h3 ?_
  unfold D28
  rw [show (65536 : Nat) = 2 ^ 16 from rfl, ← Nat.pow_mul]
  exact Nat.pow_lt_pow_right (by omega) (by decide)
theorem inf_gt {b : Nat} (hb : b < 2 ^ 64) (hi : infB b = true) : fgt .f64 b 0 = !negB b := by
  unfold infB at hi
  simp only [decide_eq_true_eq] at hi
  have hn : nan64 b = false := by unfold nan64; rw [hi]; decide
  rw [fgt64, hn, show nan64 0 = false from rfl, show key64 0 = 0 from rfl]
  unfold key64 negB
  rcases Nat.lt_or_ge b 9223372036854775808 with h | h
  · rw [if_neg (by omega), decide_eq_false (by omega : ¬ 9223372036854775808 ≤ b)]
    simp
    omega
  · rw [if_pos (by omega), decide_eq_true h]
    simp
    omega
theorem feq_mag {x : Nat} (h : finB x) : feq .f64 x 0 = decide (magN x = 0) := by
  rw [feq_fin h (show finB 0 from ⟨by omega, by decide, by decide⟩), show valZ 0 = 0 by decide]
  rw [decide_eq_decide, mag_abs]
  omega
end Go.Pst
namespace Go.Proofs.Ytjakjnmfndfehaa
open Go.RowKit Go.Pst
set_option maxRecDepth 20000
set_option linter.unusedSimpArgs false
set_option linter.unusedVariables false
attribute [local go_sem] m64bits m64from


set_option maxHeartbeats 8000000 in
theorem rexact_any (n c : Nat) (A : Option Addr) (f : Nat → Nat) (w : World) (hA : FlAt w w.heap.size A n f) (hn : n ≤ 65536) (hf : ∀ j, j < n → f j < 2 ^ 64) :
    Calls Try.prog 28 #[.slice A n c] w fun en w' => en = .returned (.float .f64 (rexV f n)) ∧ Below w.heap.size w w' := by
  have HA0 := Lib.hid hA; have HF := Lib.hid hf
  have HNONE := Lib.hid fun w => pNone_any w
  obtain ⟨a0, ha0⟩ : ∃ a, a = decide (0 < n) := ⟨_, rfl⟩
  have ha1 : decide ((n : Int) > 0) = a0 := by rw [ha0, decide_eq_decide]; omega
  have ha2 : decide (0 < (n : Int)) = a0 := ha1
  have HA00 := Lib.hid ha0
  clear hA hf ha0
  go_enter Try.func28, Try.ntmps28
  go_wp2_with (with_reducible refine wpList_store_row rfl 88 _ _ rfl w.heap.size (bcells fun _ => 0).toArray rfl rfl 88 (bcells fun _ => 0).toArray (by rw [heap_alloc_new, bcells_zero]) (info280' _) (by simp [bcells]) (all_oneCell_toArray (bcells_one _)) ?_)
  go_loopw [3, 4, 5, 7] (fun up dn al t wr => ∃ k : Nat, t = .int .i64 k ∧ k ≤ n ∧ exN f k = false ∧ up = .bool (exP f k) ∧ dn = .bool (exL f k) ∧ al = .bool (a0 && !exM f k) ∧ Below w.heap.size w wr ∧ w.heap.size + 1 ≤ wr.heap.size ∧
      ∃ X, wr.heap[w.heap.size]? = some (.cells (bcells X).toArray 88 (0, 0)) ∧ (∀ i, i < 280 → -(65535 * (k : Int)) ≤ X i ∧ X i ≤ 65535 * (k : Int)) ∧ bv X 280 = exSum f k * ((2 ^ K11 : Nat) : Int)) (fun _ _ _ t _ => n - (intOf t).toNat)
  case atStart =>
    exact ⟨0, rfl, by omega, rfl, rfl, rfl, by rw [HA00.out, show exM f 0 = false from rfl, Bool.not_false, Bool.and_true], below_setRow ((Below.refl _ _).alloc (Nat.le_refl _) _) (Nat.le_refl _), by rw [setRow_size]; simp,
      _, setRow_heap _ _ Try.zeroCells88 _ _ _ (heap_alloc_new _ _), fun i _ => by simp, by rw [show exSum f 0 = 0 from rfl, Int.zero_mul]; exact bv_zero 280⟩
  case round =>
    obtain ⟨k, rfl, hk, hnk, rfl, rfl, rfl, hw, hsz, X, ha, hx, hbv⟩ := hrel
    have HA := Lib.hid ha; have BW := Lib.hid hw; have HX := Lib.hid hx; have HBV := Lib.hid hbv; have HNK := Lib.hid hnk
    clear ha hw hx hbv hnk
    by_cases hkn : k < n
    · have h3 : (k : Int) < (n : Int) := by omega
      have h0 : 0 ≤ (k : Int) := by omega
      obtain ⟨a, o, rfl, haw, hc⟩ := (HA0.out.below BW.out (Nat.le_refl _)) (by omega)
      have q := hc k hkn
      have hb := HF.out k hkn
      have eP : exP f (k + 1) = (exP f k || (!nan64 (f k) && infB (f k) && !negB (f k))) := rfl
      have eL : exL f (k + 1) = (exL f k || (!nan64 (f k) && infB (f k) && negB (f k))) := rfl
      have eN : exN f (k + 1) = (exN f k || nan64 (f k)) := rfl
      have eM : exM f (k + 1) = (exM f k || (!nan64 (f k) && (infB (f k) || decide (magN (f k) ≠ 0) || !negB (f k)))) := rfl
      have eU : exSum f (k + 1) = exSum f k + (if finF (f k) then valZ (f k) else 0) := rfl
      have hfd : finF (f k) = (!nan64 (f k) && !infB (f k)) := rfl
      have hmono := Lib.hid fun h => exN_mono (f := f) (k := k + 1) h n (by omega)
      clear hc
      obtain ⟨x, hx⟩ : ∃ x, x = f k := ⟨_, rfl⟩
      rw [← hx] at q hb eP eL eN eM eU hfd
      clear hx
      rw [HNK.out, Bool.false_or] at eN
      have hno := fun w => pnone_any x w
      have hin := fun w => pinf_any x w hb
      cases hnx : nan64 x
      · rw [hnx] at eP eL eN eM hfd hno
        cases hix : infB x
        · rw [hix] at eP eL eM hfd hin
          have hfin : finB x := (finF_iff hb).1 (by rw [hfd]; rfl)
          rw [show finF x = true from by rw [hfd]; rfl, if_pos rfl] at eU
          rw [Bool.false_or, Bool.not_false, Bool.true_and] at eM
          rw [Bool.not_false, Bool.true_and, Bool.false_and, Bool.or_false] at eP eL
          have EP := Lib.hid eP; have EL := Lib.hid eL; have EN := Lib.hid eN
          have HNO := Lib.hid hno; have HIN := Lib.hid hin
          have hpl := place_fin hfin
          have hml : mantB x < W64 := Nat.lt_of_lt_of_le (mant_lt x) (by decide)
          have hpa := fun w => pparts_any x w hb
          obtain ⟨at', hat⟩ : ∃ a, a = placeB x + 1126 := ⟨_, rfl⟩
          rw [show (placeB x : Int) - 1074 = (at' : Int) - 2200 by omega] at hpa
          have HPA := Lib.hid hpa
          have HPL := Lib.hid fun w => plus_any X (mantB x) at' (negB x) (65535 * (k : Int)) w hml (by omega) (by omega) HX.out
          have hbd : ∀ i, i < 280 → -(65535 * ((k + 1 : Nat) : Int)) ≤ plusD X (mantB x) (at' % 16) (at' / 16) (negB x) 5 i ∧ plusD X (mantB x) (at' % 16) (at' / 16) (negB x) 5 i ≤ 65535 * ((k + 1 : Nat) : Int) := fun i hi => by
            have := plusD_bd (X := X) (m := mantB x) (s := at' % 16) (k := at' / 16) (neg := negB x) (b := 65535 * (k : Int)) hml (Nat.mod_lt _ (by omega)) (j := 5) (i := i) (HX.out i hi)
            omega
          have HX2 := Lib.hid hbd
          have hbs := bv_plus5 (X := X) (m := mantB x) (s := at' % 16) (k := at' / 16) (n := 280) (neg := negB x) (by omega) hml (Nat.mod_lt _ (by omega))
          have hmag : sgn (negB x) (mantB x * 2 ^ (16 * (at' / 16) + at' % 16)) = valZ x * ((2 ^ K11 : Nat) : Int) := by
            rw [show 16 * (at' / 16) + at' % 16 = placeB x + K11 by unfold K11; omega, Nat.pow_add, ← Nat.mul_assoc, valZ_mag]
            exact (sgn_mul _ _ _).symm
          rw [hmag, HBV.out, ← Int.add_mul, ← eU] at hbs
          have HBV2 := Lib.hid hbs
          have HNG := Lib.hid fun w => pneg_any x w hb
          have hfq := feq_mag hfin
          obtain ⟨X2, hX2⟩ : ∃ Y, Y = plusD X (mantB x) (at' % 16) (at' / 16) (negB x) 5 := ⟨_, rfl⟩
          rw [← hX2] at HPL HX2 HBV2
          clear hX2 hbs hmag hbd hpa hat hpl hml eP eL eN eU hno hin hfd hnx hix hfin
          obtain ⟨al, hal⟩ : ∃ b, b = (a0 && !exM f k) := ⟨_, rfl⟩
          obtain ⟨zr, hzr⟩ : ∃ b, b = decide (magN x = 0) := ⟨_, rfl⟩
          have eM2 : (a0 && !exM f (k + 1)) = (al && zr && negB x) := by
            rw [eM, hal, hzr]
            cases a0 <;> cases exM f k <;> cases negB x <;> by_cases h : magN x = 0 <;> simp [h]
          rw [← hzr] at hfq
          rw [← hal]
          clear eM hal hzr hmono
          have HEM := Lib.hid eM2
          clear eM2
          cases al
          ·
            go_wp2_with fail
            refine (HNO.out _).mono ?_
            rintro en w' ⟨rfl, rfl⟩
            go_wp2_with fail
            refine (HIN.out _).mono ?_
            rintro en w' ⟨rfl, rfl⟩
            go_wp2_with fail
            skip
            refine (HPA.out _).mono ?_
            rintro en w' ⟨rfl, rfl⟩
            go_wp2_with (with_reducible refine wpList_load_row rfl 88 _ rfl w.heap.size rfl 88 (bcells X).toArray (0, 0) _ HA.out Try.underlying88 rfl (info280' _) ?_)
            refine (HPL.out _).mono ?_
            rintro en wn ⟨rfl, hbn⟩
            have zz := BW.out.size
            have HA1 := Lib.hid ((hbn.block w.heap.size (by omega)).trans HA.out)
            have BW1 := Lib.hid (BW.out.trans (hbn.mono zz))
            have hsz1 : w.heap.size + 1 ≤ wn.heap.size := Nat.le_trans hsz hbn.size
            clear hbn HPL
            go_wp2_with (with_reducible refine wpList_store_row rfl 88 _ _ rfl w.heap.size (bcells X2).toArray rfl rfl 88 (bcells X).toArray HA1.out (info280' _) (by simp [bcells]) (all_oneCell_toArray (bcells_one _)) ?_)
            have HA2 := Lib.hid (setRow_heap wn w.heap.size _ (bcells X2).toArray _ _ HA1.out)
            have BW2 := Lib.hid (below_setRow (cs := (bcells X2).toArray) BW1.out (Nat.le_refl _))
            have hsz2 : w.heap.size + 1 ≤ (wn.setRow w.heap.size (bcells X2).toArray).heap.size := by rw [setRow_size]; exact hsz1
            go_roundw
            case rel => exact ⟨k + 1, by go_num, by omega, EN.out, by rw [EP.out], by rw [EL.out], by rw [HEM.out]; rfl, BW2.out, hsz2, X2, HA2.out, HX2.out, HBV2.out⟩
            case measure => (simp [intOf] <;> omega)
          · cases zr
            ·
              go_wp2_with fail
              refine (HNO.out _).mono ?_
              rintro en w' ⟨rfl, rfl⟩
              go_wp2_with fail
              refine (HIN.out _).mono ?_
              rintro en w' ⟨rfl, rfl⟩
              go_wp2_with fail
              skip
              refine (HPA.out _).mono ?_
              rintro en w' ⟨rfl, rfl⟩
              go_wp2_with (with_reducible refine wpList_load_row rfl 88 _ rfl w.heap.size rfl 88 (bcells X).toArray (0, 0) _ HA.out Try.underlying88 rfl (info280' _) ?_)
              refine (HPL.out _).mono ?_
              rintro en wn ⟨rfl, hbn⟩
              have zz := BW.out.size
              have HA1 := Lib.hid ((hbn.block w.heap.size (by omega)).trans HA.out)
              have BW1 := Lib.hid (BW.out.trans (hbn.mono zz))
              have hsz1 : w.heap.size + 1 ≤ wn.heap.size := Nat.le_trans hsz hbn.size
              clear hbn HPL
              go_wp2_with (with_reducible refine wpList_store_row rfl 88 _ _ rfl w.heap.size (bcells X2).toArray rfl rfl 88 (bcells X).toArray HA1.out (info280' _) (by simp [bcells]) (all_oneCell_toArray (bcells_one _)) ?_)
              have HA2 := Lib.hid (setRow_heap wn w.heap.size _ (bcells X2).toArray _ _ HA1.out)
              have BW2 := Lib.hid (below_setRow (cs := (bcells X2).toArray) BW1.out (Nat.le_refl _))
              have hsz2 : w.heap.size + 1 ≤ (wn.setRow w.heap.size (bcells X2).toArray).heap.size := by rw [setRow_size]; exact hsz1
              go_roundw
              case rel => exact ⟨k + 1, by go_num, by omega, EN.out, by rw [EP.out], by rw [EL.out], by rw [HEM.out]; rfl, BW2.out, hsz2, X2, HA2.out, HX2.out, HBV2.out⟩
              case measure => (simp [intOf] <;> omega)
            ·
              go_wp2_with fail
              refine (HNO.out _).mono ?_
              rintro en w' ⟨rfl, rfl⟩
              go_wp2_with fail
              refine (HIN.out _).mono ?_
              rintro en w' ⟨rfl, rfl⟩
              go_wp2_with fail
              (refine (HNG.out _).mono ?_; rintro en w' ⟨rfl, rfl⟩; go_wp2_with fail)
              refine (HPA.out _).mono ?_
              rintro en w' ⟨rfl, rfl⟩
              go_wp2_with (with_reducible refine wpList_load_row rfl 88 _ rfl w.heap.size rfl 88 (bcells X).toArray (0, 0) _ HA.out Try.underlying88 rfl (info280' _) ?_)
              refine (HPL.out _).mono ?_
              rintro en wn ⟨rfl, hbn⟩
              have zz := BW.out.size
              have HA1 := Lib.hid ((hbn.block w.heap.size (by omega)).trans HA.out)
              have BW1 := Lib.hid (BW.out.trans (hbn.mono zz))
              have hsz1 : w.heap.size + 1 ≤ wn.heap.size := Nat.le_trans hsz hbn.size
              clear hbn HPL
              go_wp2_with (with_reducible refine wpList_store_row rfl 88 _ _ rfl w.heap.size (bcells X2).toArray rfl rfl 88 (bcells X).toArray HA1.out (info280' _) (by simp [bcells]) (all_oneCell_toArray (bcells_one _)) ?_)
              have HA2 := Lib.hid (setRow_heap wn w.heap.size _ (bcells X2).toArray _ _ HA1.out)
              have BW2 := Lib.hid (below_setRow (cs := (bcells X2).toArray) BW1.out (Nat.le_refl _))
              have hsz2 : w.heap.size + 1 ≤ (wn.setRow w.heap.size (bcells X2).toArray).heap.size := by rw [setRow_size]; exact hsz1
              go_roundw
              case rel => exact ⟨k + 1, by go_num, by omega, EN.out, by rw [EP.out], by rw [EL.out], by rw [HEM.out]; rfl, BW2.out, hsz2, X2, HA2.out, HX2.out, HBV2.out⟩
              case measure => (simp [intOf] <;> omega)
        · rw [hix] at eP eL eM hfd hin
          rw [show finF x = false from by rw [hfd]; rfl, if_neg Bool.false_ne_true, Int.add_zero] at eU
          have hgt := inf_gt hb hix
          have hlt := (inf_sign hb hix).1
          rw [Bool.not_false, Bool.true_and, Bool.true_and] at eP eL
          have eM2 : (a0 && !exM f (k + 1)) = false := by rw [eM]; simp
          have EP := Lib.hid eP; have EL := Lib.hid eL; have EN := Lib.hid eN; have EM := Lib.hid eM2
          have HNO := Lib.hid hno; have HIN := Lib.hid hin
          have hbd : ∀ i, i < 280 → -(65535 * ((k + 1 : Nat) : Int)) ≤ X i ∧ X i ≤ 65535 * ((k + 1 : Nat) : Int) := fun i hi => by
            have := HX.out i hi
            omega
          have HX2 := Lib.hid hbd
          have HBV2 : Hid (bv X 280 = exSum f (k + 1) * ((2 ^ K11 : Nat) : Int)) := Lib.hid (by rw [eU]; exact HBV.out)
          generalize negB x = ng at *
          obtain ⟨al, hal⟩ : ∃ b, b = (a0 && !exM f k) := ⟨_, rfl⟩
          obtain ⟨p, hp⟩ : ∃ b, b = exP f k := ⟨_, rfl⟩
          obtain ⟨l, hl⟩ : ∃ b, b = exL f k := ⟨_, rfl⟩
          rw [← hal, ← hp, ← hl]
          rw [← hp] at EP
          rw [← hl] at EL
          clear hbd eP eL eN eM eM2 eU hno hin hfd hnx hix hmono hal hp hl
          cases p
          · cases l
            ·
              go_wp2_with fail
              refine (HNO.out _).mono ?_
              rintro en w' ⟨rfl, rfl⟩
              go_wp2_with fail
              refine (HIN.out _).mono ?_
              rintro en w' ⟨rfl, rfl⟩
              go_wp2_with fail
              go_roundw
              case rel => exact ⟨k + 1, by go_num, by omega, EN.out, by rw [EP.out] <;> first | rfl | simp, by rw [EL.out] <;> first | rfl | simp, by rw [EM.out] <;> first | rfl | simp, BW.out, hsz, X, HA.out, HX2.out, HBV2.out⟩
              case measure => (simp [intOf] <;> omega)
            ·
              go_wp2_with fail
              refine (HNO.out _).mono ?_
              rintro en w' ⟨rfl, rfl⟩
              go_wp2_with fail
              refine (HIN.out _).mono ?_
              rintro en w' ⟨rfl, rfl⟩
              go_wp2_with fail
              go_roundw
              case rel => exact ⟨k + 1, by go_num, by omega, EN.out, by rw [EP.out] <;> first | rfl | simp, by rw [EL.out] <;> first | rfl | simp, by rw [EM.out] <;> first | rfl | simp, BW.out, hsz, X, HA.out, HX2.out, HBV2.out⟩
              case measure => (simp [intOf] <;> omega)
          · cases l
            ·
              go_wp2_with fail
              refine (HNO.out _).mono ?_
              rintro en w' ⟨rfl, rfl⟩
              go_wp2_with fail
              refine (HIN.out _).mono ?_
              rintro en w' ⟨rfl, rfl⟩
              go_wp2_with fail
              go_roundw
              case rel => exact ⟨k + 1, by go_num, by omega, EN.out, by rw [EP.out] <;> first | rfl | simp, by rw [EL.out] <;> first | rfl | simp, by rw [EM.out] <;> first | rfl | simp, BW.out, hsz, X, HA.out, HX2.out, HBV2.out⟩
              case measure => (simp [intOf] <;> omega)
            ·
              go_wp2_with fail
              refine (HNO.out _).mono ?_
              rintro en w' ⟨rfl, rfl⟩
              go_wp2_with fail
              refine (HIN.out _).mono ?_
              rintro en w' ⟨rfl, rfl⟩
              go_wp2_with fail
              go_roundw
              case rel => exact ⟨k + 1, by go_num, by omega, EN.out, by rw [EP.out] <;> first | rfl | simp, by rw [EL.out] <;> first | rfl | simp, by rw [EM.out] <;> first | rfl | simp, BW.out, hsz, X, HA.out, HX2.out, HBV2.out⟩
              case measure => (simp [intOf] <;> omega)
      · rw [hnx] at hno
        have HNO := Lib.hid hno
        have hne : exN f n = true := hmono.out (by rw [eN, hnx])
        have HRV : Hid (9218868437227405313 = rexV f n) := Lib.hid (by unfold rexV; rw [hne]; rfl)
        clear hno hin eP eL eN eM eU hfd hmono hne hnx
        go_wp2_with fail
        refine (HNO.out _).mono ?_
        rintro en w' ⟨rfl, rfl⟩
        go_wp2_with fail
        refine (HNONE.out _).mono ?_
        rintro en w' ⟨rfl, rfl⟩
        go_wp2_with fail
        go_ret
        exact ⟨congrArg (fun x => Ending.returned (Value.float .f64 x)) HRV.out, BW.out⟩
    · obtain rfl : k = n := by omega
      have hrv : rexV f k = if exN f k || (exP f k && exL f k) then 9218868437227405313 else exV (exN f k) (exP f k) (exL f k) (exS f k) (exM f k) (exSum f k) 1074 := rfl
      rw [HNK.out, Bool.false_or, exS_all k HNK.out, ← HA00.out] at hrv
      unfold exV at hrv
      rw [Bool.false_or] at hrv
      have hout := fun w => out_any X (a0 && !exM f k) (65535 * (k : Int)) w (by omega) HX.out (by rw [HBV.out]; exact small_out hn HF.out)
      rw [HBV.out, out_exact] at hout
      obtain ⟨ov, hov⟩ : ∃ v, v = if exSum f k = 0 then (if a0 && !exM f k then 9223372036854775808 else 0) else fvN (exSum f k) 1074 := ⟨_, rfl⟩
      rw [← hov] at hout hrv
      obtain ⟨al, hal⟩ : ∃ b, b = (a0 && !exM f k) := ⟨_, rfl⟩
      rw [← hal] at hout ⊢
      have HOUT := Lib.hid hout
      have hsz0 : w.heap.size ≤ wr.heap.size := by omega
      clear hov hal hout
      cases hp : exP f k
      · rw [hp, Bool.false_and, if_neg Bool.false_ne_true, if_neg Bool.false_ne_true] at hrv
        cases hl : exL f k
        · rw [hl, if_neg Bool.false_ne_true] at hrv
          have HRV := Lib.hid hrv.symm
          clear hrv hp hl
          go_wp2_with (with_reducible refine wpList_load_row rfl 88 _ rfl w.heap.size rfl 88 (bcells X).toArray (0, 0) _ HA.out Try.underlying88 rfl (info280' _) ?_)
          refine (HOUT.out _).mono ?_
          rintro en wn ⟨rfl, hbn⟩
          have BW1 := Lib.hid (BW.out.trans (hbn.mono hsz0))
          clear hbn
          go_wp2_with fail
          go_ret
          exact ⟨congrArg (fun x => Ending.returned (Value.float .f64 x)) HRV.out, BW1.out⟩
        · rw [hl, if_pos rfl] at hrv
          have HRV := Lib.hid hrv.symm
          clear hrv hp hl
          go_wp2_with fail
          go_ret
          exact ⟨congrArg (fun x => Ending.returned (Value.float .f64 x)) HRV.out, BW.out⟩
      · cases hl : exL f k
        · rw [hp, hl, Bool.and_false, if_neg Bool.false_ne_true, if_neg Bool.false_ne_true, if_pos rfl] at hrv
          have HRV := Lib.hid hrv.symm
          clear hrv hp hl
          go_wp2_with fail
          go_ret
          exact ⟨congrArg (fun x => Ending.returned (Value.float .f64 x)) HRV.out, BW.out⟩
        · rw [hp, hl, Bool.and_true, if_pos rfl] at hrv
          have HRV := Lib.hid hrv.symm
          clear hrv hp hl
          go_wp2_with fail
          refine (HNONE.out _).mono ?_
          rintro en w' ⟨rfl, rfl⟩
          go_wp2_with fail
          go_ret
          exact ⟨congrArg (fun x => Ending.returned (Value.float .f64 x)) HRV.out, BW.out⟩
end Go.Proofs.Ytjakjnmfndfehaa
