/- total: the lesser and the greater of two numbers (real's), the document's lesser: plain and walks. Condition: the bits fit. -/
import Derived.Test.YtjakjnmfndfehaaDd
import Derived.WalkSpells
import Derived.BigQuiet
import Derived.Lib.Hide
import Derived.Outline
namespace Go.Pst
open Go Ieee Go.RowKit Go.Proofs.Ytjakjnmfndfehaa
set_option linter.unusedVariables false
set_option linter.unusedSimpArgs false
def maxF (a b : Nat) : Nat := if nan64 a then a else if nan64 b then b else if ordK b ≤ ordK a then a else b
/-- The document's lesser one. -/
def lsV (x y : Nat) : Nat := if nan64 x || nan64 y then 9218868437227405313 else if flt .f64 y x || (feq .f64 x y && negB y) then y else x
theorem ordK_key {b : Nat} (hb : b < 2 ^ 64) : ordK b = if negB b then key64 b - 1 else key64 b := by
  unfold ordK negB key64
  rcases Nat.lt_or_ge b 9223372036854775808 with h | h
  · rw [if_pos h, decide_eq_false (by omega : ¬ 9223372036854775808 ≤ b), if_neg Bool.false_ne_true, if_neg (by omega)]; omega
  · rw [if_neg (by omega), decide_eq_true h, if_pos rfl, if_pos (by omega)]; omega
theorem key_inj {a b : Nat} (ha : a < 2 ^ 64) (hb : b < 2 ^ 64) (h : ordK a = ordK b) : a = b := by
  unfold ordK at h
  split at h <;> split at h <;> omega
theorem neg_key {a : Nat} (ha : a < 2 ^ 64) : (negB a = true → key64 a ≤ 0) ∧ (negB a = false → 0 ≤ key64 a) := by
  unfold negB key64
  rcases Nat.lt_or_ge a 9223372036854775808 with h | h
  · rw [decide_eq_false (by omega : ¬ 9223372036854775808 ≤ a), if_neg (by omega)]
    exact ⟨fun h => (by cases h), fun _ => by omega⟩
  · rw [decide_eq_true h, if_pos (by omega)]
    exact ⟨fun _ => by omega, fun h => (by cases h)⟩
theorem ls_min {a b : Nat} (ha : a < 2 ^ 64) (hb : b < 2 ^ 64) : cn (lsV a b) = cn (minF a b) := by
  unfold lsV minF
  cases h1 : nan64 a
  · cases h2 : nan64 b
    · simp only [Bool.false_or, Bool.false_eq_true, if_false]
      rw [flt64, feq64, h1, h2]
      have oa := ordK_key ha
      have ob := ordK_key hb
      have na := neg_key ha
      have nb := neg_key hb
      have ki := key_inj ha hb
      cases s1 : negB a <;> cases s2 : negB b <;> rw [s1] at oa na <;> rw [s2] at ob nb <;> simp at oa ob na nb ⊢
      all_goals (by_cases g : ordK a ≤ ordK b <;> simp only [g, if_true, if_false])
      all_goals split
      all_goals first | rfl | (have e := ki (by omega); rw [e]) | (exfalso; omega)
    · rw [if_pos (by rfl), if_neg Bool.false_ne_true, if_pos rfl, cn_of_nan b h2]
      decide
  · rw [if_pos (by rfl), if_pos rfl, cn_of_nan a h1]
    decide
theorem flip_ord {a : Nat} (ha : a < 2 ^ 64) : ordK (flipF a) = -1 - ordK a ∧ nan64 (flipF a) = nan64 a ∧ flipF a < 2 ^ 64 := by
  rcases Nat.lt_or_ge a 9223372036854775808 with h | h
  · have e : flipF a = 9223372036854775808 + a := by rw [flipF_low h]; unfold wrd; rw [if_pos rfl]
    rw [e]
    refine ⟨?_, ?_, by omega⟩
    · unfold ordK; rw [if_neg (by omega), if_pos h]; omega
    · unfold nan64; rw [show (9223372036854775808 + a) % 9223372036854775808 = a % 9223372036854775808 by omega]
  · obtain ⟨r, hr⟩ : ∃ r, a = 9223372036854775808 + r := ⟨a - 9223372036854775808, by omega⟩
    have hrl : r < 9223372036854775808 := by omega
    have e : flipF a = r := by
      have h1 : flipF r = a := by rw [flipF_low hrl, hr]; unfold wrd; rw [if_pos rfl]
      rw [← h1]; unfold flipF; rw [Nat.xor_assoc, Nat.xor_self, Nat.xor_zero]
    rw [e]
    refine ⟨?_, ?_, by omega⟩
    · unfold ordK; rw [if_pos hrl, if_neg (by omega)]; omega
    · unfold nan64; rw [show a % 9223372036854775808 = r % 9223372036854775808 by omega]
theorem flipF_twice2 (r : Nat) : flipF (flipF r) = r := by unfold flipF; rw [Nat.xor_assoc, Nat.xor_self, Nat.xor_zero]
/-- The greater one, turned about. -/
theorem ls_max {a b : Nat} (ha : a < 2 ^ 64) (hb : b < 2 ^ 64) : cn (flipF (lsV (flipF a) (flipF b))) = cn (maxF a b) := by
  obtain ⟨a1, a2, a3⟩ := flip_ord ha
  obtain ⟨b1, b2, b3⟩ := flip_ord hb
  cases h1 : nan64 a
  · cases h2 : nan64 b
    · have hm := ls_min a3 b3
      have hnl : nan64 (lsV (flipF a) (flipF b)) = false := by
        rw [← cn_nan, hm, cn_nan]; unfold minF; rw [a2, b2, h1, h2]; simp; split <;> simp [a2, b2, h1, h2]
      have hnm : nan64 (minF (flipF a) (flipF b)) = false := by rw [← cn_nan, ← hm, cn_nan]; exact hnl
      rw [cn_of _ hnl, cn_of _ hnm] at hm
      rw [hm]
      congr 1
      unfold minF maxF
      rw [a2, b2, h1, h2, a1, b1]
      simp only [Bool.false_eq_true, if_false]
      by_cases g : ordK b ≤ ordK a
      · rw [if_pos g, if_pos (by omega), flipF_twice2]
      · rw [if_neg g, if_neg (by omega), flipF_twice2]
    · have : cn (maxF a b) = NC := by unfold maxF; rw [h1, h2]; simp; exact cn_of_nan b h2
      rw [this]
      unfold lsV; rw [a2, b2, h1, h2]; simp
      decide
  · have : cn (maxF a b) = NC := by unfold maxF; rw [h1]; simp; exact cn_of_nan a h1
    rw [this]
    unfold lsV; rw [a2, h1]; simp
    decide
end Go.Pst
namespace Go.Proofs.Ytjakjnmfndfehaa
open Go.RowKit Go.Pst
set_option maxRecDepth 20000
set_option linter.unusedSimpArgs false
set_option linter.unusedVariables false
theorem ret_int {k : IntKind} {a b : Int} (h : a = b) : Ending.returned (.int k a) = .returned (.int k b) := by rw [h]
theorem x64bits (b : Nat) (w : World) : (callFunc 102 #[.float .f64 b]).run Try.prog w = .ok (.value (.int .u64 b)) w := by kernel_rfl
attribute [local go_sem] x64bits

def cmpI (x y : Int) : Int := if x < y then -1 else if y < x then 1 else 0

theorem none_any (b : Nat) (w : World) : Calls Try.prog 115 #[.float .f64 b] w fun en w' => en = .returned (.bool (nan64 b)) ∧ w = w' := by
  have h := fne_self b
  go_enter Try.func115, Try.ntmps115
  go_wp2
  go_ret
  exact ⟨rfl, rfl⟩

theorem i64_not (c : Int) (h1 : -9223372036854775808 ≤ c) (h2 : c < 9223372036854775808) : bits .xor .i64 (-1) c = -c - 1 := by
  show IntKind.i64.wrap ((BitVec.ofInt 64 (-1) ^^^ BitVec.ofInt 64 c).toNat : Int) = _
  have e : BitVec.ofInt 64 (-1) = BitVec.allOnes 64 := by decide
  rw [e, BitVec.allOnes_xor, BitVec.toNat_not, BitVec.toNat_ofInt, IntKind.wrap_i64]
  omega

theorem key_any (b : Nat) (w : World) (h : b < 2 ^ 64) : Calls Try.prog 130 #[.float .f64 b] w fun en w' => en = .returned (.int .i64 (ordK b)) ∧ w = w' := by
  obtain ⟨r, hr⟩ : ∃ r, r = ordK b := ⟨_, rfl⟩
  rw [← hr]
  unfold ordK at hr
  by_cases hs : b < 9223372036854775808
  · rw [if_pos hs] at hr
    have h1 : IntKind.i64.wrap (b : Int) = b := by rw [IntKind.wrap_i64]; omega
    have h2 : ¬ (b : Int) < 0 := by omega
    have HR := Lib.hid hr; clear hr h
    go_enter Try.func130, Try.ntmps130
    go_wp2
    go_ret
    exact ⟨ret_int (by rw [HR.out]), rfl⟩
  · rw [if_neg hs] at hr
    obtain ⟨c, hc⟩ : ∃ c : Int, c = IntKind.i64.wrap (b : Int) := ⟨_, rfl⟩
    have h1 : c = (b : Int) - 18446744073709551616 := by rw [hc, IntKind.wrap_i64]; omega
    have h2 : c < 0 := by omega
    have h3 : -9223372036854775808 ≤ c := by omega
    have h4 : r = -9223372036854775808 + (-c - 1) := by omega
    have hx := i64_not c (by omega) (by omega)
    replace hc := hc.symm
    have HR := Lib.hid h4; clear hr h4 h h1 hs
    go_enter Try.func130, Try.ntmps130
    go_wp2
    go_ret
    exact ⟨ret_int (by rw [HR.out]; unfold wrap64; omega), rfl⟩

theorem cmp64_any (x y : Int) (w : World) : Calls Try.prog 129 #[.int .i64 x, .int .i64 y] w fun en w' => en = .returned (.int .i64 (cmpI x y)) ∧ w = w' := by
  have hn : ∀ (z : Int) w, Calls Try.prog 137 #[.int .i64 z] w fun en w' => en = .returned (.bool false) ∧ w = w' := fun z w => by
    go_enter Try.func137, Try.ntmps137
    go_wp2
    go_ret
    exact ⟨by simp, rfl⟩
  have HN := Lib.hid hn; clear hn
  unfold cmpI
  have hx : x < y ∨ (¬ x < y ∧ y < x) ∨ (¬ x < y ∧ ¬ y < x) := by omega
  rcases hx with h | ⟨h, h2⟩ | ⟨h, h2⟩
  · rw [if_pos h]
    go_enter Try.func129, Try.ntmps129
    go_wp2_with fail
    refine (HN.out _ _).mono ?_
    rintro en w' ⟨rfl, rfl⟩
    go_wp2_with fail
    refine (HN.out _ _).mono ?_
    rintro en w' ⟨rfl, rfl⟩
    go_wp2_with fail
    go_ret
    exact ⟨rfl, rfl⟩
  · rw [if_neg h, if_pos h2]
    go_enter Try.func129, Try.ntmps129
    go_wp2_with fail
    refine (HN.out _ _).mono ?_
    rintro en w' ⟨rfl, rfl⟩
    go_wp2_with fail
    refine (HN.out _ _).mono ?_
    rintro en w' ⟨rfl, rfl⟩
    go_wp2_with fail
    go_ret
    exact ⟨rfl, rfl⟩
  · rw [if_neg h, if_neg h2]
    go_enter Try.func129, Try.ntmps129
    go_wp2_with fail
    refine (HN.out _ _).mono ?_
    rintro en w' ⟨rfl, rfl⟩
    go_wp2_with fail
    refine (HN.out _ _).mono ?_
    rintro en w' ⟨rfl, rfl⟩
    go_wp2_with fail
    go_ret
    exact ⟨rfl, rfl⟩

theorem order_any (a b : Nat) (w : World) (ha : a < 2 ^ 64) (hb : b < 2 ^ 64) : Calls Try.prog 116 #[.float .f64 a, .float .f64 b] w fun en w' => en = .returned (.int .i64 (cmpI (ordK a) (ordK b))) ∧ w = w' := by
  have H1 := Lib.hid fun w => key_any a w ha
  have H2 := Lib.hid fun w => key_any b w hb
  have H3 := Lib.hid fun w => cmp64_any (ordK a) (ordK b) w
  generalize cmpI (ordK a) (ordK b) = r at *
  generalize ordK a = x at *
  generalize ordK b = y at *
  go_enter Try.func116, Try.ntmps116
  go_wp2_with fail
  refine (H1.out _).mono ?_
  rintro en w' ⟨rfl, rfl⟩
  go_wp2_with fail
  refine (H2.out _).mono ?_
  rintro en w' ⟨rfl, rfl⟩
  go_wp2_with fail
  refine (H3.out _).mono ?_
  rintro en w' ⟨rfl, rfl⟩
  go_wp2_with fail
  go_ret
  exact ⟨rfl, rfl⟩


theorem minimum_any (a b : Nat) (w : World) (ha : a < 2 ^ 64) (hb : b < 2 ^ 64) :
    Calls Try.prog 96 #[.float .f64 a, .float .f64 b] w fun en w' => en = .returned (.float .f64 (minF a b)) ∧ w = w' := by
  obtain ⟨r, hr⟩ : ∃ r, r = minF a b := ⟨_, rfl⟩
  rw [← hr]
  unfold minF at hr
  have H1 := Lib.hid fun w => none_any a w
  have H2 := Lib.hid fun w => none_any b w
  have H3 := Lib.hid fun w => order_any a b w ha hb
  have hc : (cmpI (ordK a) (ordK b) ≤ 0) ↔ ordK a ≤ ordK b := by unfold cmpI; (repeat' split) <;> omega
  replace hr : r = if nan64 a = true then a else if nan64 b = true then b else if cmpI (ordK a) (ordK b) ≤ 0 then a else b := by rw [hr]; simp only [hc]
  generalize cmpI (ordK a) (ordK b) = c at *
  clear hc ha hb
  cases hna : nan64 a
  · rw [hna] at hr H1
    cases hnb : nan64 b
    · rw [hnb] at hr H2
      simp only [Bool.false_eq_true, if_false] at hr
      by_cases h : c ≤ 0
      · rw [if_pos h] at hr
        subst hr
        go_enter Try.func96, Try.ntmps96
        go_wp2_with fail
        refine (H1.out _).mono ?_
        rintro en w' ⟨rfl, rfl⟩
        go_wp2_with fail
        refine (H2.out _).mono ?_
        rintro en w' ⟨rfl, rfl⟩
        go_wp2_with fail
        refine (H3.out _).mono ?_
        rintro en w' ⟨rfl, rfl⟩
        go_wp2_with fail
        go_ret
        exact ⟨rfl, rfl⟩
      · rw [if_neg h] at hr
        subst hr
        go_enter Try.func96, Try.ntmps96
        go_wp2_with fail
        refine (H1.out _).mono ?_
        rintro en w' ⟨rfl, rfl⟩
        go_wp2_with fail
        refine (H2.out _).mono ?_
        rintro en w' ⟨rfl, rfl⟩
        go_wp2_with fail
        refine (H3.out _).mono ?_
        rintro en w' ⟨rfl, rfl⟩
        go_wp2_with fail
        go_ret
        exact ⟨rfl, rfl⟩
    · rw [hnb] at hr H2
      simp only [Bool.false_eq_true, if_false, if_true] at hr
      subst hr
      go_enter Try.func96, Try.ntmps96
      go_wp2_with fail
      refine (H1.out _).mono ?_
      rintro en w' ⟨rfl, rfl⟩
      go_wp2_with fail
      refine (H2.out _).mono ?_
      rintro en w' ⟨rfl, rfl⟩
      go_wp2_with fail
      go_ret
      exact ⟨rfl, rfl⟩
  · rw [hna] at hr H1
    simp only [if_true] at hr
    subst hr
    clear H2 H3
    go_enter Try.func96, Try.ntmps96
    go_wp2_with fail
    refine (H1.out _).mono ?_
    rintro en w' ⟨rfl, rfl⟩
    go_wp2_with fail
    go_ret
    exact ⟨rfl, rfl⟩
theorem maximum_any (a b : Nat) (w : World) (ha : a < 2 ^ 64) (hb : b < 2 ^ 64) :
    Calls Try.prog 97 #[.float .f64 a, .float .f64 b] w fun en w' => en = .returned (.float .f64 (maxF a b)) ∧ w = w' := by
  obtain ⟨r, hr⟩ : ∃ r, r = maxF a b := ⟨_, rfl⟩
  rw [← hr]
  unfold maxF at hr
  have H1 := Lib.hid fun w => none_any a w
  have H2 := Lib.hid fun w => none_any b w
  have H3 := Lib.hid fun w => order_any a b w ha hb
  have hc : (0 ≤ cmpI (ordK a) (ordK b)) ↔ ordK b ≤ ordK a := by unfold cmpI; (repeat' split) <;> omega
  replace hr : r = if nan64 a = true then a else if nan64 b = true then b else if 0 ≤ cmpI (ordK a) (ordK b) then a else b := by rw [hr]; simp only [hc]
  generalize cmpI (ordK a) (ordK b) = c at *
  clear hc ha hb
  cases hna : nan64 a
  · rw [hna] at hr H1
    cases hnb : nan64 b
    · rw [hnb] at hr H2
      simp only [Bool.false_eq_true, if_false] at hr
      by_cases h : 0 ≤ c
      · rw [if_pos h] at hr
        subst hr
        go_enter Try.func97, Try.ntmps97
        go_wp2_with fail
        refine (H1.out _).mono ?_
        rintro en w' ⟨rfl, rfl⟩
        go_wp2_with fail
        refine (H2.out _).mono ?_
        rintro en w' ⟨rfl, rfl⟩
        go_wp2_with fail
        refine (H3.out _).mono ?_
        rintro en w' ⟨rfl, rfl⟩
        go_wp2_with fail
        go_ret
        exact ⟨rfl, rfl⟩
      · rw [if_neg h] at hr
        subst hr
        go_enter Try.func97, Try.ntmps97
        go_wp2_with fail
        refine (H1.out _).mono ?_
        rintro en w' ⟨rfl, rfl⟩
        go_wp2_with fail
        refine (H2.out _).mono ?_
        rintro en w' ⟨rfl, rfl⟩
        go_wp2_with fail
        refine (H3.out _).mono ?_
        rintro en w' ⟨rfl, rfl⟩
        go_wp2_with fail
        go_ret
        exact ⟨rfl, rfl⟩
    · rw [hnb] at hr H2
      simp only [Bool.false_eq_true, if_false, if_true] at hr
      subst hr
      go_enter Try.func97, Try.ntmps97
      go_wp2_with fail
      refine (H1.out _).mono ?_
      rintro en w' ⟨rfl, rfl⟩
      go_wp2_with fail
      refine (H2.out _).mono ?_
      rintro en w' ⟨rfl, rfl⟩
      go_wp2_with fail
      go_ret
      exact ⟨rfl, rfl⟩
  · rw [hna] at hr H1
    simp only [if_true] at hr
    subst hr
    clear H2 H3
    go_enter Try.func97, Try.ntmps97
    go_wp2_with fail
    refine (H1.out _).mono ?_
    rintro en w' ⟨rfl, rfl⟩
    go_wp2_with fail
    go_ret
    exact ⟨rfl, rfl⟩


set_option maxHeartbeats 1000000 in
theorem lesser_any (a b : Nat) (w : World) (hb : b < 2 ^ 64) : Calls Try.prog 98 #[.float .f64 a, .float .f64 b] w fun en w' => en = .returned (.float .f64 (lsV a b)) ∧ w = w' := by
  obtain ⟨r, hr⟩ : ∃ r, r = lsV a b := ⟨_, rfl⟩
  rw [← hr]
  unfold lsV at hr
  have H1 := Lib.hid fun w => pnone_any a w
  have H2 := Lib.hid fun w => pnone_any b w
  have H3 := Lib.hid fun w => pneg_any b w hb
  have H4 := Lib.hid fun w => pNone_any w
  obtain ⟨l, hl⟩ : ∃ l, l = flt .f64 b a := ⟨_, rfl⟩
  obtain ⟨e, he⟩ : ∃ e, e = feq .f64 a b := ⟨_, rfl⟩
  generalize negB b = s at hr H3
  generalize nan64 a = n1 at hr H1
  generalize nan64 b = n2 at hr H2
  rw [← hl, ← he] at hr
  have hl' := hl.symm
  have he' := he.symm
  clear hl he
  cases n1
  · cases n2
    · cases l
      · cases e
        · have HR := Lib.hid hr.symm
          clear hr
          go_enter Try.func98, Try.ntmps98
          go_wp2_with fail
          refine (H1.out _).mono ?_
          rintro en w' ⟨rfl, rfl⟩
          go_wp2_with fail
          refine (H2.out _).mono ?_
          rintro en w' ⟨rfl, rfl⟩
          go_wp2_with fail
          go_ret
          exact ⟨congrArg (fun x => Ending.returned (Value.float .f64 x)) HR.out, rfl⟩
        · cases s
          · have HR := Lib.hid hr.symm
            clear hr
            go_enter Try.func98, Try.ntmps98
            go_wp2_with fail
            refine (H1.out _).mono ?_
            rintro en w' ⟨rfl, rfl⟩
            go_wp2_with fail
            refine (H2.out _).mono ?_
            rintro en w' ⟨rfl, rfl⟩
            go_wp2_with fail
            refine (H3.out _).mono ?_
            rintro en w' ⟨rfl, rfl⟩
            go_wp2_with fail
            go_ret
            exact ⟨congrArg (fun x => Ending.returned (Value.float .f64 x)) HR.out, rfl⟩
          · have HR := Lib.hid hr.symm
            clear hr
            go_enter Try.func98, Try.ntmps98
            go_wp2_with fail
            refine (H1.out _).mono ?_
            rintro en w' ⟨rfl, rfl⟩
            go_wp2_with fail
            refine (H2.out _).mono ?_
            rintro en w' ⟨rfl, rfl⟩
            go_wp2_with fail
            refine (H3.out _).mono ?_
            rintro en w' ⟨rfl, rfl⟩
            go_wp2_with fail
            go_ret
            exact ⟨congrArg (fun x => Ending.returned (Value.float .f64 x)) HR.out, rfl⟩
      · have HR := Lib.hid hr.symm
        clear hr
        go_enter Try.func98, Try.ntmps98
        go_wp2_with fail
        refine (H1.out _).mono ?_
        rintro en w' ⟨rfl, rfl⟩
        go_wp2_with fail
        refine (H2.out _).mono ?_
        rintro en w' ⟨rfl, rfl⟩
        go_wp2_with fail
        go_ret
        exact ⟨congrArg (fun x => Ending.returned (Value.float .f64 x)) HR.out, rfl⟩
    · have HR := Lib.hid hr.symm
      clear hr
      go_enter Try.func98, Try.ntmps98
      go_wp2_with fail
      refine (H1.out _).mono ?_
      rintro en w' ⟨rfl, rfl⟩
      go_wp2_with fail
      refine (H2.out _).mono ?_
      rintro en w' ⟨rfl, rfl⟩
      go_wp2_with fail
      refine (H4.out _).mono ?_
      rintro en w' ⟨rfl, rfl⟩
      go_wp2_with fail
      go_ret
      exact ⟨congrArg (fun x => Ending.returned (Value.float .f64 x)) HR.out, rfl⟩
  · have HR := Lib.hid hr.symm
    clear hr
    go_enter Try.func98, Try.ntmps98
    go_wp2_with fail
    refine (H1.out _).mono ?_
    rintro en w' ⟨rfl, rfl⟩
    go_wp2_with fail
    refine (H4.out _).mono ?_
    rintro en w' ⟨rfl, rfl⟩
    go_wp2_with fail
    go_ret
    exact ⟨congrArg (fun x => Ending.returned (Value.float .f64 x)) HR.out, rfl⟩
end Go.Proofs.Ytjakjnmfndfehaa
