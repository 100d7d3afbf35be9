/- The steps and the orders of floats: what each function of the two texts gives. No condition but that a float's bits fit. -/
import Derived.Test.YtpemchghaddgdaaRg
namespace Go.Proofs.Ytpemchghaddgdaa
open Go.RowKit Go.Pst
set_option maxRecDepth 20000
set_option linter.unusedSimpArgs false
set_option linter.unusedVariables false
attribute [local go_sem] x64bits x64from x32bits x32from

def upB (b : Nat) : Nat := if nan64 b || b == 9218868437227405312 then b else if b % 9223372036854775808 = 0 then 1 else if 9223372036854775808 ≤ b then b - 1 else b + 1
def flipB (b : Nat) : Nat := b ^^^ 9223372036854775808
def keyT (b : Nat) : Int := if b < 9223372036854775808 then b else 9223372036854775807 - b
def placeT (b : Nat) : Int := if b < 9223372036854775808 then b else 9223372036854775808 - b
def cmpI (x y : Int) : Int := if x < y then -1 else if y < x then 1 else 0
def isN (x b : Nat) : Bool := if nan64 b then nan64 x else x == b
def sameN (a b : Nat) : Bool := nan64 a && nan64 b || a == b

theorem flipB_eq (b : Nat) (h : b < 2 ^ 64) : flipB b = if b < 9223372036854775808 then b + 9223372036854775808 else b - 9223372036854775808 := by
  unfold flipB
  apply Nat.eq_of_testBit_eq
  intro i
  rw [Nat.testBit_xor, show (9223372036854775808 : Nat) = 2 ^ 63 from rfl, Nat.testBit_two_pow]
  split
  · rename_i h1
    by_cases hi : i = 63
    · subst hi; rw [Nat.add_comm, Nat.testBit_two_pow_add_eq]; simp
    · rcases Nat.lt_or_ge i 63 with h2 | h2
      · rw [Nat.add_comm, Nat.testBit_two_pow_add_gt h2]; have h5 : ¬ 63 = i := by omega
        simp only [h5, decide_false, Bool.xor_false]
      · have h3 : b < 2 ^ i := Nat.lt_of_lt_of_le h1 (Nat.pow_le_pow_right (by omega) h2)
        have h4 : b + 2 ^ 63 < 2 ^ i := Nat.lt_of_lt_of_le (by omega) (Nat.pow_le_pow_right (n := 2) (show 0 < 2 by omega) (show 64 ≤ i by omega))
        have h5 : ¬ 63 = i := by omega
        rw [Nat.testBit_lt_two_pow h3, Nat.testBit_lt_two_pow h4]; simp only [h5, decide_false, Bool.xor_false]
  · rename_i h1
    obtain ⟨c, rfl⟩ : ∃ c, b = 2 ^ 63 + c := ⟨b - 2 ^ 63, by omega⟩
    rw [Nat.add_sub_cancel_left]
    by_cases hi : i = 63
    · subst hi; rw [Nat.testBit_two_pow_add_eq]; simp
    · rcases Nat.lt_or_ge i 63 with h2 | h2
      · rw [Nat.testBit_two_pow_add_gt h2]; have h5 : ¬ 63 = i := by omega
        simp only [h5, decide_false, Bool.xor_false]
      · have h3 : c < 2 ^ i := Nat.lt_of_lt_of_le (show c < 2 ^ 63 by omega) (Nat.pow_le_pow_right (by omega) h2)
        have h4 : 2 ^ 63 + c < 2 ^ i := Nat.lt_of_lt_of_le h (Nat.pow_le_pow_right (n := 2) (show 0 < 2 by omega) (show 64 ≤ i by omega))
        have h5 : ¬ 63 = i := by omega
        rw [Nat.testBit_lt_two_pow h3, Nat.testBit_lt_two_pow h4]; simp only [h5, decide_false, Bool.xor_false]

theorem kind64 (b : Nat) (h : b < 2 ^ 64) : ((partsN 52 11 b).kind == 4) = nan64 b ∧ ((partsN 52 11 b).kind == 3) = (b % 9223372036854775808 == 9218868437227405312) ∧
    ((partsN 52 11 b).kind == 0) = (b % 9223372036854775808 == 0) ∧ (partsN 52 11 b).neg = decide (9223372036854775808 ≤ b) := by
  unfold partsN nan64
  simp only [show (2 : Nat) ^ 52 = 4503599627370496 from rfl, show (2 : Nat) ^ 11 = 2048 from rfl, show (2 : Nat) ^ (52 + 11) = 9223372036854775808 from rfl]
  have hn : (b / 9223372036854775808 % 2 == 1) = decide (9223372036854775808 ≤ b) := by
    rw [Bool.eq_iff_iff]; simp; omega
  rw [hn]
  (repeat' split) <;> refine ⟨?_, ?_, ?_, rfl⟩ <;> rw [Bool.eq_iff_iff] <;> simp <;> omega

theorem upN_upB (b : Nat) (h : b < 2 ^ 64) : upN b = upB b := by
  unfold upN upB
  rw [feq64, flt64, fgt64]
  have k0 : key64 0 = 0 := rfl
  have n0 : nan64 0 = false := rfl
  have n1 : nan64 9218868437227405311 = false := rfl
  have k1 : key64 9218868437227405311 = 9218868437227405311 := rfl
  rw [k0, n0, n1, k1]
  cases hn : nan64 b
  · have hn' : b % 9223372036854775808 ≤ 9218868437227405312 := by unfold nan64 at hn; simpa using hn
    simp only [Bool.false_or, Bool.or_false, Bool.not_false, Bool.true_and]
    by_cases hs : 9223372036854775808 ≤ b
    · have e1 : b / 9223372036854775808 % 2 = 1 := by omega
      simp only [key64, e1, if_true, decide_eq_true_eq, beq_iff_eq]
      (repeat' split) <;> omega
    · have e1 : ¬ b / 9223372036854775808 % 2 = 1 := by omega
      simp only [key64, e1, if_false, decide_eq_true_eq, beq_iff_eq]
      (repeat' split) <;> omega
  · simp

theorem upB_lt (b : Nat) (h : b < 2 ^ 64) : upB b < 2 ^ 64 := by
  unfold upB
  split
  · exact h
  rename_i h1
  have hn' : b % 9223372036854775808 ≤ 9218868437227405312 := by
    unfold nan64 at h1; simp only [Bool.or_eq_true, decide_eq_true_eq, beq_iff_eq, not_or] at h1; omega
  (repeat' split) <;> omega

theorem rup_any (b : Nat) (w : World) (h : b < 2 ^ 64) : Calls Try.prog 33 #[.float .f64 b] w fun en w' => en = .returned (.float .f64 (upB b)) ∧ w = w' := by
  rw [← upN_upB b h]
  have k0 : key64 0 = 0 := rfl
  have n0 : nan64 0 = false := rfl
  have n1 : nan64 9218868437227405311 = false := rfl
  have k1 : key64 9218868437227405311 = 9218868437227405311 := rfl
  refine up_any b w h (fun hl => ?_) (fun h1 h2 h3 => ?_)
  · rw [flt64, k0] at hl
    simp only [key64, Bool.and_eq_true, decide_eq_true_eq] at hl
    have := of_decide_eq_true hl.2
    split at this <;> omega
  · rw [fgt64, n1, k1] at h1
    rw [flt64, k0, n0] at h3
    rw [feq64, k0, n0] at h2
    cases hn : nan64 b
    · have hn' : b % 9223372036854775808 ≤ 9218868437227405312 := by unfold nan64 at hn; simpa using hn
      rw [hn] at h1 h2 h3
      simp only [Bool.false_or, Bool.or_false, Bool.not_false, Bool.true_and] at h1 h2 h3
      by_cases hs : 9223372036854775808 ≤ b
      · have e1 : b / 9223372036854775808 % 2 = 1 := by omega
        simp [key64, e1] at h1 h2 h3; omega
      · have e1 : ¬ b / 9223372036854775808 % 2 = 1 := by omega
        simp [key64, e1] at h1 h2 h3; omega
    · rw [hn] at h1; simp at h1

theorem run_neg64 (P : Program) (b : Nat) (w : World) : Sem.run P (Op.unary .neg (.float .f64 b)) w = .ok (.float .f64 (flipB b)) w := rfl
attribute [local go_sem] run_neg64

theorem down_any (b : Nat) (w : World) (h : b < 2 ^ 64) : Calls Try.prog 35 #[.float .f64 b] w fun en w' => en = .returned (.float .f64 (flipB (upB (flipB b)))) ∧ w = w' := by
  have hf : flipB b < 2 ^ 64 := by rw [flipB_eq b h]; split <;> omega
  have hu := fun w => rup_any (flipB b) w hf
  have e : ∀ x, Op.negFloat .f64 x = flipB x := fun x => rfl
  have HU := Lib.hid hu; clear hu
  go_enter Try.func35, Try.ntmps35
  go_wp2_with fail
  refine (HU.out _).mono ?_
  rintro en w' ⟨rfl, rfl⟩
  go_wp2_with fail
  go_ret
  exact ⟨rfl, rfl⟩

theorem i64_not (c : Int) (h1 : -9223372036854775808 ≤ c) (h2 : c < 9223372036854775808) : bits .xor .i64 (-1) c = -c - 1 := by
  show IntKind.i64.wrap ((BitVec.ofInt 64 (-1) ^^^ BitVec.ofInt 64 c).toNat : Int) = _
  have e : BitVec.ofInt 64 (-1) = BitVec.allOnes 64 := by decide
  rw [e, BitVec.allOnes_xor, BitVec.toNat_not, BitVec.toNat_ofInt, IntKind.wrap_i64]
  omega

theorem key_any (b : Nat) (w : World) (h : b < 2 ^ 64) : Calls Try.prog 84 #[.float .f64 b] w fun en w' => en = .returned (.int .i64 (keyT b)) ∧ w = w' := by
  obtain ⟨r, hr⟩ : ∃ r, r = keyT b := ⟨_, rfl⟩
  rw [← hr]
  unfold keyT at hr
  by_cases hs : b < 9223372036854775808
  · rw [if_pos hs] at hr
    have h1 : IntKind.i64.wrap (b : Int) = b := by rw [IntKind.wrap_i64]; omega
    have h2 : ¬ (b : Int) < 0 := by omega
    have HR := Lib.hid hr; clear hr h
    go_enter Try.func84, Try.ntmps84
    go_wp2
    go_ret
    exact ⟨ret_int (by rw [HR.out]), rfl⟩
  · rw [if_neg hs] at hr
    obtain ⟨c, hc⟩ : ∃ c : Int, c = IntKind.i64.wrap (b : Int) := ⟨_, rfl⟩
    have h1 : c = (b : Int) - 18446744073709551616 := by rw [hc, IntKind.wrap_i64]; omega
    have h2 : c < 0 := by omega
    have h3 : -9223372036854775808 ≤ c := by omega
    have h4 : r = -9223372036854775808 + (-c - 1) := by omega
    have hx := i64_not c (by omega) (by omega)
    replace hc := hc.symm
    have HR := Lib.hid h4; clear hr h4 h h1 hs
    go_enter Try.func84, Try.ntmps84
    go_wp2
    go_ret
    exact ⟨ret_int (by rw [HR.out]; unfold wrap64; omega), rfl⟩

theorem cmp_any (x y : Int) (w : World) : Calls Try.prog 85 #[.int .i64 x, .int .i64 y] w fun en w' => en = .returned (.int .i64 (cmpI x y)) ∧ w = w' := by
  have hn : ∀ (z : Int) w, Calls Try.prog 104 #[.int .i64 z] w fun en w' => en = .returned (.bool false) ∧ w = w' := fun z w => by
    go_enter Try.func104, Try.ntmps104
    go_wp2
    go_ret
    exact ⟨by simp, rfl⟩
  have HN := Lib.hid hn; clear hn
  unfold cmpI
  have hx : x < y ∨ (¬ x < y ∧ y < x) ∨ (¬ x < y ∧ ¬ y < x) := by omega
  rcases hx with h | ⟨h, h2⟩ | ⟨h, h2⟩
  · rw [if_pos h]
    go_enter Try.func85, Try.ntmps85
    go_wp2_with fail
    refine (HN.out _ _).mono ?_
    rintro en w' ⟨rfl, rfl⟩
    go_wp2_with fail
    refine (HN.out _ _).mono ?_
    rintro en w' ⟨rfl, rfl⟩
    go_wp2_with fail
    go_ret
    exact ⟨rfl, rfl⟩
  · rw [if_neg h, if_pos h2]
    go_enter Try.func85, Try.ntmps85
    go_wp2_with fail
    refine (HN.out _ _).mono ?_
    rintro en w' ⟨rfl, rfl⟩
    go_wp2_with fail
    refine (HN.out _ _).mono ?_
    rintro en w' ⟨rfl, rfl⟩
    go_wp2_with fail
    go_ret
    exact ⟨rfl, rfl⟩
  · rw [if_neg h, if_neg h2]
    go_enter Try.func85, Try.ntmps85
    go_wp2_with fail
    refine (HN.out _ _).mono ?_
    rintro en w' ⟨rfl, rfl⟩
    go_wp2_with fail
    refine (HN.out _ _).mono ?_
    rintro en w' ⟨rfl, rfl⟩
    go_wp2_with fail
    go_ret
    exact ⟨rfl, rfl⟩

theorem order_any (a b : Nat) (w : World) (ha : a < 2 ^ 64) (hb : b < 2 ^ 64) : Calls Try.prog 39 #[.float .f64 a, .float .f64 b] w fun en w' => en = .returned (.int .i64 (cmpI (keyT a) (keyT b))) ∧ w = w' := by
  have H1 := Lib.hid fun w => key_any a w ha
  have H2 := Lib.hid fun w => key_any b w hb
  have H3 := Lib.hid fun w => cmp_any (keyT a) (keyT b) w
  generalize cmpI (keyT a) (keyT b) = r at *
  generalize keyT a = x at *
  generalize keyT b = y at *
  go_enter Try.func39, Try.ntmps39
  go_wp2_with fail
  refine (H1.out _).mono ?_
  rintro en w' ⟨rfl, rfl⟩
  go_wp2_with fail
  refine (H2.out _).mono ?_
  rintro en w' ⟨rfl, rfl⟩
  go_wp2_with fail
  refine (H3.out _).mono ?_
  rintro en w' ⟨rfl, rfl⟩
  go_wp2_with fail
  go_ret
  exact ⟨rfl, rfl⟩

theorem same_any (a b : Nat) (w : World) : Calls Try.prog 40 #[.float .f64 a, .float .f64 b] w fun en w' => en = .returned (.bool (sameN a b)) ∧ w = w' := by
  obtain ⟨r, hr⟩ : ∃ r, r = sameN a b := ⟨_, rfl⟩
  rw [← hr]
  unfold sameN at hr
  have he : ((a : Int) == (b : Int)) = (a == b) := by rw [Bool.eq_iff_iff]; simp; omega
  rw [← he] at hr
  have H1 := Lib.hid fun w => none_any a w
  have H2 := Lib.hid fun w => none_any b w
  generalize nan64 a = x at *
  generalize nan64 b = y at *
  have HR := Lib.hid hr; clear hr he
  cases x
  · go_enter Try.func40, Try.ntmps40
    go_wp2_with fail
    refine (H1.out _).mono ?_
    rintro en w' ⟨rfl, rfl⟩
    go_wp2_with fail
    go_ret
    exact ⟨by rw [HR.out]; simp, rfl⟩
  · cases y
    · go_enter Try.func40, Try.ntmps40
      go_wp2_with fail
      refine (H1.out _).mono ?_
      rintro en w' ⟨rfl, rfl⟩
      go_wp2_with fail
      refine (H2.out _).mono ?_
      rintro en w' ⟨rfl, rfl⟩
      go_wp2_with fail
      go_ret
      exact ⟨by rw [HR.out]; simp, rfl⟩
    · go_enter Try.func40, Try.ntmps40
      go_wp2_with fail
      refine (H1.out _).mono ?_
      rintro en w' ⟨rfl, rfl⟩
      go_wp2_with fail
      refine (H2.out _).mono ?_
      rintro en w' ⟨rfl, rfl⟩
      go_wp2_with fail
      go_ret
      exact ⟨by rw [HR.out]; simp, rfl⟩

theorem rkey_any (b : Nat) (w : World) (h : b < 2 ^ 64) : Calls Try.prog 38 #[.int .u64 b] w fun en w' => en = .returned (.int .i64 (keyT b)) ∧ w = w' := by
  obtain ⟨r, hr⟩ : ∃ r, r = keyT b := ⟨_, rfl⟩
  rw [← hr]
  unfold keyT at hr
  by_cases hs : b < 9223372036854775808
  · rw [if_pos hs] at hr
    have h1 : IntKind.i64.wrap (b : Int) = b := by rw [IntKind.wrap_i64]; omega
    have h2 : ¬ (b : Int) / 9223372036854775808 = 1 := by omega
    have HR := Lib.hid hr; clear hr h
    go_enter Try.func38, Try.ntmps38
    go_wp2
    go_ret
    exact ⟨ret_int (by rw [HR.out]), rfl⟩
  · rw [if_neg hs] at hr
    obtain ⟨c, hc⟩ : ∃ c : Nat, c = b - 9223372036854775808 := ⟨_, rfl⟩
    have h0 : bits .and .u64 (b : Int) 9223372036854775807 = (c : Int) := by
      rw [show (9223372036854775807 : Int) = ((2 ^ 63 - 1 : Nat) : Int) by decide, and_mask h (by omega)]; omega
    have h1 : IntKind.i64.wrap (c : Int) = c := by rw [IntKind.wrap_i64]; omega
    have h2 : (b : Int) / 9223372036854775808 = 1 := by omega
    have h3 : r = -(c : Int) - 1 := by omega
    have h4 : c < 9223372036854775808 := by omega
    have HR := Lib.hid h3; clear hr h3 h hs hc
    go_enter Try.func38, Try.ntmps38
    go_wp2
    go_ret
    exact ⟨ret_int (by rw [HR.out]), rfl⟩

theorem rplace_any (b : Nat) (w : World) (h : b < 2 ^ 64) : Calls Try.prog 37 #[.int .u64 b] w fun en w' => en = .returned (.int .i64 (placeT b)) ∧ w = w' := by
  obtain ⟨r, hr⟩ : ∃ r, r = placeT b := ⟨_, rfl⟩
  rw [← hr]
  unfold placeT at hr
  by_cases hs : b < 9223372036854775808
  · rw [if_pos hs] at hr
    have h1 : IntKind.i64.wrap (b : Int) = b := by rw [IntKind.wrap_i64]; omega
    have h2 : ¬ (b : Int) / 9223372036854775808 = 1 := by omega
    have HR := Lib.hid hr; clear hr h
    go_enter Try.func37, Try.ntmps37
    go_wp2
    go_ret
    exact ⟨ret_int (by rw [HR.out]), rfl⟩
  · rw [if_neg hs] at hr
    obtain ⟨c, hc⟩ : ∃ c : Nat, c = b - 9223372036854775808 := ⟨_, rfl⟩
    have h0 : bits .and .u64 (b : Int) 9223372036854775807 = (c : Int) := by
      rw [show (9223372036854775807 : Int) = ((2 ^ 63 - 1 : Nat) : Int) by decide, and_mask h (by omega)]; omega
    have h1 : IntKind.i64.wrap (c : Int) = c := by rw [IntKind.wrap_i64]; omega
    have h2 : (b : Int) / 9223372036854775808 = 1 := by omega
    have h3 : r = -(c : Int) := by omega
    have h4 : c < 9223372036854775808 := by omega
    have HR := Lib.hid h3; clear hr h3 h hs hc
    go_enter Try.func37, Try.ntmps37
    go_wp2
    go_ret
    exact ⟨ret_int (by rw [HR.out]), rfl⟩

theorem refparts64 (b : Nat) (w : World) (h : b < 2 ^ 64) : Calls Try.prog 31 #[.int .u64 b, .agg #[.int .i64 52, .int .i64 2047, .int .i64 1023]] w fun en w' => en = .returned (partsN 52 11 b).val ∧ Below w.heap.size w w' :=
  rparts_any 52 2047 1023 11 b w (by omega) (by omega) (by omega) (by omega) h rfl rfl


theorem refup_any (b : Nat) (w : World) (h : b < 2 ^ 64) : Calls Try.prog 34 #[.int .u64 b] w fun en w' => en = .returned (.int .u64 (upB b)) ∧ Below w.heap.size w w' := by
  obtain ⟨r, hr⟩ : ∃ r : Int, r = upB b := ⟨_, rfl⟩
  rw [← hr]
  unfold upB at hr
  obtain ⟨k1, k2, k3, k4⟩ := kind64 b h
  have h1 := fun w => refparts64 b w h
  have H2 := Lib.hid fun w => size64_any w
  have hs : b % 9223372036854775808 < 9223372036854775808 := Nat.mod_lt _ (by omega)
  generalize partsN 52 11 b = p at *
  obtain ⟨pk, pn, pm, px, pq, pl⟩ := p
  simp only [FP.val] at h1 k1 k2 k3 k4
  have H1 := Lib.hid h1; clear h1
  cases hn : nan64 b
  · rw [hn] at k1 hr
    have hm : b % 9223372036854775808 ≤ 9218868437227405312 := by unfold nan64 at hn; simpa using hn
    by_cases hi : b % 9223372036854775808 = 9218868437227405312
    · rw [hi] at k2 k3
      by_cases hg : 9223372036854775808 ≤ b
      · rw [decide_eq_true hg] at k4
        simp only [BEq.rfl] at k2
        have k3' : (pk == 0) = false := by rw [k3]; rfl
        have hr2 : r = (b : Int) - 1 := by rw [hr, if_neg (by simp; omega), if_neg (by omega), if_pos hg]; omega
        subst k4
        have h4 : IntKind.u64.wrap ((b : Int) - 1) = (b : Int) - 1 := by rw [IntKind.wrap_u64]; omega
        clear hr hn hm hi hg k3
        have hr := hr2; clear hr2
        have HR := Lib.hid hr; clear hr hs h
        go_enter Try.func34, Try.ntmps34
        go_wp2_with fail
        have O := Reg.Own.nil w
        have zz := O.rules
        have HO := Lib.hid O; clear O
        go_wp2_with fail
        refine (H2.out _).mono ?_
        rintro en wn ⟨rfl, hbn⟩
        have O := HO.out.keep hbn
        clear HO zz
        have zz := O.rules
        have HO := Lib.hid O; clear O
        clear hbn
        go_wp2_with fail
        refine (H1.out _).mono ?_
        rintro en wn ⟨rfl, hbn⟩
        have O := HO.out.keep hbn
        clear HO zz
        have zz := O.rules
        have HO := Lib.hid O; clear O
        clear hbn
        go_wp2
        go_ret
        exact ⟨by rw [HR.out]; rfl, HO.out.below.alloc HO.out.size _⟩
      · rw [decide_eq_false hg] at k4
        simp only [BEq.rfl] at k2
        have hr2 : r = (b : Int) := by rw [hr, if_pos (by simp; omega)]
        subst k4
        clear hr hn hm hi hg k3
        have hr := hr2; clear hr2
        have HR := Lib.hid hr; clear hr hs h
        go_enter Try.func34, Try.ntmps34
        go_wp2_with fail
        have O := Reg.Own.nil w
        have zz := O.rules
        have HO := Lib.hid O; clear O
        go_wp2_with fail
        refine (H2.out _).mono ?_
        rintro en wn ⟨rfl, hbn⟩
        have O := HO.out.keep hbn
        clear HO zz
        have zz := O.rules
        have HO := Lib.hid O; clear O
        clear hbn
        go_wp2_with fail
        refine (H1.out _).mono ?_
        rintro en wn ⟨rfl, hbn⟩
        have O := HO.out.keep hbn
        clear HO zz
        have zz := O.rules
        have HO := Lib.hid O; clear O
        clear hbn
        go_wp2
        go_ret
        exact ⟨by rw [HR.out]; rfl, HO.out.below.alloc HO.out.size _⟩
    · have k2' : (pk == 3) = false := by rw [k2]; simpa using hi
      clear k2
      by_cases hz : b % 9223372036854775808 = 0
      · have k3' : (pk == 0) = true := by rw [k3, hz]; rfl
        have hr2 : r = (1 : Int) := by rw [hr, if_neg (by simp; omega), if_pos hz]; rfl
        clear hr hn hm hi hz k3 k4
        have hr := hr2; clear hr2
        have HR := Lib.hid hr; clear hr hs h
        go_enter Try.func34, Try.ntmps34
        go_wp2_with fail
        have O := Reg.Own.nil w
        have zz := O.rules
        have HO := Lib.hid O; clear O
        go_wp2_with fail
        refine (H2.out _).mono ?_
        rintro en wn ⟨rfl, hbn⟩
        have O := HO.out.keep hbn
        clear HO zz
        have zz := O.rules
        have HO := Lib.hid O; clear O
        clear hbn
        go_wp2_with fail
        refine (H1.out _).mono ?_
        rintro en wn ⟨rfl, hbn⟩
        have O := HO.out.keep hbn
        clear HO zz
        have zz := O.rules
        have HO := Lib.hid O; clear O
        clear hbn
        go_wp2
        go_ret
        exact ⟨by rw [HR.out]; rfl, HO.out.below.alloc HO.out.size _⟩
      · have k3' : (pk == 0) = false := by rw [k3]; simpa using hz
        by_cases hg : 9223372036854775808 ≤ b
        · rw [decide_eq_true hg] at k4
          have hr2 : r = (b : Int) - 1 := by rw [hr, if_neg (by simp; omega), if_neg (by omega), if_pos hg]; omega
          subst k4
          have h3 : (0 : Int) ≤ b - 1 ∧ (b : Int) - 1 < 18446744073709551616 := by omega
          have h4 : IntKind.u64.wrap ((b : Int) - 1) = (b : Int) - 1 := by rw [IntKind.wrap_u64]; omega
          clear hr hn hm hi hg hz k3 h3
          have hr := hr2; clear hr2
          have HR := Lib.hid hr; clear hr hs h
          go_enter Try.func34, Try.ntmps34
          go_wp2_with fail
          have O := Reg.Own.nil w
          have zz := O.rules
          have HO := Lib.hid O; clear O
          go_wp2_with fail
          refine (H2.out _).mono ?_
          rintro en wn ⟨rfl, hbn⟩
          have O := HO.out.keep hbn
          clear HO zz
          have zz := O.rules
          have HO := Lib.hid O; clear O
          clear hbn
          go_wp2_with fail
          refine (H1.out _).mono ?_
          rintro en wn ⟨rfl, hbn⟩
          have O := HO.out.keep hbn
          clear HO zz
          have zz := O.rules
          have HO := Lib.hid O; clear O
          clear hbn
          go_wp2
          go_ret
          exact ⟨by rw [HR.out]; rfl, HO.out.below.alloc HO.out.size _⟩
        · rw [decide_eq_false hg] at k4
          have hr2 : r = (b : Int) + 1 := by rw [hr, if_neg (by simp; omega), if_neg (by omega), if_neg hg]; omega
          subst k4
          have h4 : IntKind.u64.wrap ((b : Int) + 1) = (b : Int) + 1 := by rw [IntKind.wrap_u64]; omega
          clear hr hn hm hi hg hz k3
          have hr := hr2; clear hr2
          have HR := Lib.hid hr; clear hr hs h
          go_enter Try.func34, Try.ntmps34
          go_wp2_with fail
          have O := Reg.Own.nil w
          have zz := O.rules
          have HO := Lib.hid O; clear O
          go_wp2_with fail
          refine (H2.out _).mono ?_
          rintro en wn ⟨rfl, hbn⟩
          have O := HO.out.keep hbn
          clear HO zz
          have zz := O.rules
          have HO := Lib.hid O; clear O
          clear hbn
          go_wp2_with fail
          refine (H1.out _).mono ?_
          rintro en wn ⟨rfl, hbn⟩
          have O := HO.out.keep hbn
          clear HO zz
          have zz := O.rules
          have HO := Lib.hid O; clear O
          clear hbn
          go_wp2
          go_ret
          exact ⟨by rw [HR.out]; rfl, HO.out.below.alloc HO.out.size _⟩
  · rw [hn] at k1 hr
    have hr2 : r = (b : Int) := by rw [hr, if_pos (by simp)]
    clear hr hn k2 k3 k4
    have hr := hr2; clear hr2
    have HR := Lib.hid hr; clear hr hs h
    go_enter Try.func34, Try.ntmps34
    go_wp2_with fail
    have O := Reg.Own.nil w
    have zz := O.rules
    have HO := Lib.hid O; clear O
    go_wp2_with fail
    refine (H2.out _).mono ?_
    rintro en wn ⟨rfl, hbn⟩
    have O := HO.out.keep hbn
    clear HO zz
    have zz := O.rules
    have HO := Lib.hid O; clear O
    clear hbn
    go_wp2_with fail
    refine (H1.out _).mono ?_
    rintro en wn ⟨rfl, hbn⟩
    have O := HO.out.keep hbn
    clear HO zz
    have zz := O.rules
    have HO := Lib.hid O; clear O
    clear hbn
    go_wp2
    go_ret
    exact ⟨by rw [HR.out]; rfl, HO.out.below.alloc HO.out.size _⟩

theorem run_kind (v0 v1 v2 v3 v4 v5 : Value) (w : World) : Sem.run Try.prog (Instr.field 32 (.agg #[v0, v1, v2, v3, v4, v5]) 0) w = .ok v0 w := by kernel_rfl
attribute [local go_sem] run_kind

theorem is_any (x b : Nat) (w : World) (h : b < 2 ^ 64) : Calls Try.prog 32 #[.float .f64 x, .int .u64 b] w fun en w' => en = .returned (.bool (isN x b)) ∧ Below w.heap.size w w' := by
  obtain ⟨r, hr⟩ : ∃ r, r = isN x b := ⟨_, rfl⟩
  rw [← hr]
  unfold isN at hr
  obtain ⟨k1, -⟩ := kind64 b h
  have h1 := fun w => refparts64 b w h
  have H2 := Lib.hid fun w => size64_any w
  have he : ((x : Int) == (b : Int)) = (x == b) := by rw [Bool.eq_iff_iff]; simp; omega
  rw [← he, ← fne_self x] at hr
  generalize partsN 52 11 b = p at *
  obtain ⟨pk, pn, pm, px, pq, pl⟩ := p
  simp only [FP.val] at h1 k1
  have H1 := Lib.hid h1; clear h1 he h
  generalize nan64 b = n at *
  cases n
  · have HR := Lib.hid hr; clear hr
    go_enter Try.func32, Try.ntmps32
    go_wp2_with fail
    have O := Reg.Own.nil w
    have zz := O.rules
    have HO := Lib.hid O; clear O
    go_wp2_with fail
    refine (H2.out _).mono ?_
    rintro en wn ⟨rfl, hbn⟩
    have O := HO.out.keep hbn
    clear HO zz
    have zz := O.rules
    have HO := Lib.hid O; clear O
    clear hbn
    go_wp2_with fail
    refine (H1.out _).mono ?_
    rintro en wn ⟨rfl, hbn⟩
    have O := HO.out.keep hbn
    clear HO zz
    have zz := O.rules
    have HO := Lib.hid O; clear O
    clear hbn
    go_wp2
    go_ret
    exact ⟨by rw [HR.out]; simp, HO.out.below⟩
  · have HR := Lib.hid hr; clear hr
    go_enter Try.func32, Try.ntmps32
    go_wp2_with fail
    have O := Reg.Own.nil w
    have zz := O.rules
    have HO := Lib.hid O; clear O
    go_wp2_with fail
    refine (H2.out _).mono ?_
    rintro en wn ⟨rfl, hbn⟩
    have O := HO.out.keep hbn
    clear HO zz
    have zz := O.rules
    have HO := Lib.hid O; clear O
    clear hbn
    go_wp2_with fail
    refine (H1.out _).mono ?_
    rintro en wn ⟨rfl, hbn⟩
    have O := HO.out.keep hbn
    clear HO zz
    have zz := O.rules
    have HO := Lib.hid O; clear O
    clear hbn
    go_wp2
    go_ret
    exact ⟨by rw [HR.out]; simp, HO.out.below⟩

theorem place_any (b : Nat) (w : World) (h : b < 2 ^ 64) : Calls Try.prog 83 #[.float .f64 b] w fun en w' => en = .returned (.int .i64 (placeT b)) ∧ w = w' := by
  obtain ⟨r, hr⟩ : ∃ r, r = placeT b := ⟨_, rfl⟩
  rw [← hr]
  unfold placeT at hr
  have H1 := Lib.hid fun w => key_any b w h
  have hk : keyT b = if b < 9223372036854775808 then (b : Int) else 9223372036854775807 - b := rfl
  have hz : feq .f64 b 0 = decide (b % 9223372036854775808 = 0) := by
    rw [feq64, show key64 0 = 0 from rfl, show nan64 0 = false from rfl, Bool.eq_iff_iff]
    unfold key64 nan64
    simp
    by_cases hs : b / 9223372036854775808 % 2 = 1
    · simp [hs]; omega
    · simp [hs]; omega
  generalize keyT b = k at *
  by_cases h0 : b % 9223372036854775808 = 0
  · rw [decide_eq_true h0] at hz
    have h2 : r = 0 := by split at hr <;> omega
    have HR := Lib.hid h2; clear hr hk h0 h2 h
    go_enter Try.func83, Try.ntmps83
    go_wp2
    go_ret
    exact ⟨ret_int (by rw [HR.out]), rfl⟩
  · rw [decide_eq_false h0] at hz
    by_cases hs : k < 0
    · have h2 : r = k + 1 ∧ -9223372036854775808 ≤ k := by split at hr <;> split at hk <;> omega
      have HR := Lib.hid h2.1; have h3 := h2.2; clear hr hk h0 h2 h
      go_enter Try.func83, Try.ntmps83
      go_wp2_with fail
      refine (H1.out _).mono ?_
      rintro en w' ⟨rfl, rfl⟩
      go_wp2
      go_ret
      exact ⟨ret_int (by rw [HR.out]), rfl⟩
    · have h2 : r = k := by split at hr <;> split at hk <;> omega
      have HR := Lib.hid h2; clear hr hk h0 h2 h
      go_enter Try.func83, Try.ntmps83
      go_wp2_with fail
      refine (H1.out _).mono ?_
      rintro en w' ⟨rfl, rfl⟩
      go_wp2
      go_ret
      exact ⟨ret_int (by rw [HR.out]), rfl⟩

theorem steps_any (a b : Nat) (w : World) (ha : a < 2 ^ 64) (hb : b < 2 ^ 64) : Calls Try.prog 36 #[.float .f64 a, .float .f64 b] w fun en w' =>
    en = .returned (if nan64 a || nan64 b then .tuple #[.int .u64 0, .bool false] else .tuple #[.int .u64 (max (placeT a) (placeT b) - min (placeT a) (placeT b)), .bool true]) ∧ w = w' := by
  have H1 := Lib.hid fun w => none_any a w
  have H2 := Lib.hid fun w => none_any b w
  have H3 := Lib.hid fun w => place_any a w ha
  have H4 := Lib.hid fun w => place_any b w hb
  have hx : -9223372036854775808 < placeT a ∧ placeT a < 9223372036854775808 := by unfold placeT; split <;> omega
  have hy : -9223372036854775808 < placeT b ∧ placeT b < 9223372036854775808 := by unfold placeT; split <;> omega
  generalize placeT a = x at *
  generalize placeT b = y at *
  have hr : IntKind.u64.wrap (IntKind.u64.wrap (max x y) - IntKind.u64.wrap (min x y)) = max x y - min x y := by simp only [IntKind.wrap_u64]; omega
  generalize nan64 a = p at *
  generalize nan64 b = q at *
  cases p
  · cases q
    · go_enter Try.func36, Try.ntmps36
      go_wp2_with fail
      refine (H1.out _).mono ?_
      rintro en w' ⟨rfl, rfl⟩
      go_wp2_with fail
      refine (H2.out _).mono ?_
      rintro en w' ⟨rfl, rfl⟩
      go_wp2_with fail
      refine (H3.out _).mono ?_
      rintro en w' ⟨rfl, rfl⟩
      go_wp2_with fail
      refine (H4.out _).mono ?_
      rintro en w' ⟨rfl, rfl⟩
      go_wp2_with fail
      all_goals (go_ret2; exact ⟨by simp [IntKind.wrap_u64]; omega, rfl⟩)
    · go_enter Try.func36, Try.ntmps36
      go_wp2_with fail
      refine (H1.out _).mono ?_
      rintro en w' ⟨rfl, rfl⟩
      go_wp2_with fail
      refine (H2.out _).mono ?_
      rintro en w' ⟨rfl, rfl⟩
      go_wp2_with fail
      go_ret2
      exact ⟨by simp, rfl⟩
  · go_enter Try.func36, Try.ntmps36
    go_wp2_with fail
    refine (H1.out _).mono ?_
    rintro en w' ⟨rfl, rfl⟩
    go_wp2_with fail
    go_ret2
    exact ⟨by simp, rfl⟩

end Go.Proofs.Ytpemchghaddgdaa
