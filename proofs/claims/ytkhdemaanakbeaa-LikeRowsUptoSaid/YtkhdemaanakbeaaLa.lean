/- The least functions: no number, the total order, the lesser one, the order of letters. No condition but that a float's bits fit. -/
import Derived.Test.YtkhdemaanakbeaaRows
import Derived.Test.YtkhdemaanakbeaaLp
import Derived.WalkKit
import Derived.WalkSpells
import Derived.WalkLawsBesides
import Derived.BigQuiet
import Derived.Lib.Hide
import Derived.Outline
import Derived.StillTailTactics
namespace Go.Proofs.Ytkhdemaanakbeaa
open Go.RowKit Go.Pst
set_option maxRecDepth 20000
set_option linter.unusedSimpArgs false
set_option linter.unusedVariables false

theorem ret_int {k : IntKind} {a b : Int} (h : a = b) : Ending.returned (.int k a) = .returned (.int k b) := by rw [h]
theorem x64bits (b : Nat) (w : World) : (callFunc 67 #[.float .f64 b]).run Try.prog w = .ok (.value (.int .u64 b)) w := by kernel_rfl
attribute [local go_sem] x64bits

def cmpI (x y : Int) : Int := if x < y then -1 else if y < x then 1 else 0

theorem none_any (b : Nat) (w : World) : Calls Try.prog 70 #[.float .f64 b] w fun en w' => en = .returned (.bool (nan64 b)) ∧ w = w' := by
  have h := fne_self b
  go_enter Try.func70, Try.ntmps70
  go_wp2
  go_ret
  exact ⟨rfl, rfl⟩

theorem i64_not (c : Int) (h1 : -9223372036854775808 ≤ c) (h2 : c < 9223372036854775808) : bits .xor .i64 (-1) c = -c - 1 := by
  show IntKind.i64.wrap ((BitVec.ofInt 64 (-1) ^^^ BitVec.ofInt 64 c).toNat : Int) = _
  have e : BitVec.ofInt 64 (-1) = BitVec.allOnes 64 := by decide
  rw [e, BitVec.allOnes_xor, BitVec.toNat_not, BitVec.toNat_ofInt, IntKind.wrap_i64]
  omega

theorem key_any (b : Nat) (w : World) (h : b < 2 ^ 64) : Calls Try.prog 66 #[.float .f64 b] w fun en w' => en = .returned (.int .i64 (ordK b)) ∧ w = w' := by
  obtain ⟨r, hr⟩ : ∃ r, r = ordK b := ⟨_, rfl⟩
  rw [← hr]
  unfold ordK at hr
  by_cases hs : b < 9223372036854775808
  · rw [if_pos hs] at hr
    have h1 : IntKind.i64.wrap (b : Int) = b := by rw [IntKind.wrap_i64]; omega
    have h2 : ¬ (b : Int) < 0 := by omega
    have HR := Lib.hid hr; clear hr h
    go_enter Try.func66, Try.ntmps66
    go_wp2
    go_ret
    exact ⟨ret_int (by rw [HR.out]), rfl⟩
  · rw [if_neg hs] at hr
    obtain ⟨c, hc⟩ : ∃ c : Int, c = IntKind.i64.wrap (b : Int) := ⟨_, rfl⟩
    have h1 : c = (b : Int) - 18446744073709551616 := by rw [hc, IntKind.wrap_i64]; omega
    have h2 : c < 0 := by omega
    have h3 : -9223372036854775808 ≤ c := by omega
    have h4 : r = -9223372036854775808 + (-c - 1) := by omega
    have hx := i64_not c (by omega) (by omega)
    replace hc := hc.symm
    have HR := Lib.hid h4; clear hr h4 h h1 hs
    go_enter Try.func66, Try.ntmps66
    go_wp2
    go_ret
    exact ⟨ret_int (by rw [HR.out]; unfold wrap64; omega), rfl⟩

theorem cmp64_any (x y : Int) (w : World) : Calls Try.prog 65 #[.int .i64 x, .int .i64 y] w fun en w' => en = .returned (.int .i64 (cmpI x y)) ∧ w = w' := by
  have hn : ∀ (z : Int) w, Calls Try.prog 73 #[.int .i64 z] w fun en w' => en = .returned (.bool false) ∧ w = w' := fun z w => by
    go_enter Try.func73, Try.ntmps73
    go_wp2
    go_ret
    exact ⟨by simp, rfl⟩
  have HN := Lib.hid hn; clear hn
  unfold cmpI
  have hx : x < y ∨ (¬ x < y ∧ y < x) ∨ (¬ x < y ∧ ¬ y < x) := by omega
  rcases hx with h | ⟨h, h2⟩ | ⟨h, h2⟩
  · rw [if_pos h]
    go_enter Try.func65, Try.ntmps65
    go_wp2_with fail
    refine (HN.out _ _).mono ?_
    rintro en w' ⟨rfl, rfl⟩
    go_wp2_with fail
    refine (HN.out _ _).mono ?_
    rintro en w' ⟨rfl, rfl⟩
    go_wp2_with fail
    go_ret
    exact ⟨rfl, rfl⟩
  · rw [if_neg h, if_pos h2]
    go_enter Try.func65, Try.ntmps65
    go_wp2_with fail
    refine (HN.out _ _).mono ?_
    rintro en w' ⟨rfl, rfl⟩
    go_wp2_with fail
    refine (HN.out _ _).mono ?_
    rintro en w' ⟨rfl, rfl⟩
    go_wp2_with fail
    go_ret
    exact ⟨rfl, rfl⟩
  · rw [if_neg h, if_neg h2]
    go_enter Try.func65, Try.ntmps65
    go_wp2_with fail
    refine (HN.out _ _).mono ?_
    rintro en w' ⟨rfl, rfl⟩
    go_wp2_with fail
    refine (HN.out _ _).mono ?_
    rintro en w' ⟨rfl, rfl⟩
    go_wp2_with fail
    go_ret
    exact ⟨rfl, rfl⟩
theorem cmp32_any (x y : Int) (w : World) : Calls Try.prog 64 #[.int .i32 x, .int .i32 y] w fun en w' => en = .returned (.int .i64 (cmpI x y)) ∧ w = w' := by
  have hn : ∀ (z : Int) w, Calls Try.prog 72 #[.int .i32 z] w fun en w' => en = .returned (.bool false) ∧ w = w' := fun z w => by
    go_enter Try.func72, Try.ntmps72
    go_wp2
    go_ret
    exact ⟨by simp, rfl⟩
  have HN := Lib.hid hn; clear hn
  unfold cmpI
  have hx : x < y ∨ (¬ x < y ∧ y < x) ∨ (¬ x < y ∧ ¬ y < x) := by omega
  rcases hx with h | ⟨h, h2⟩ | ⟨h, h2⟩
  · rw [if_pos h]
    go_enter Try.func64, Try.ntmps64
    go_wp2_with fail
    refine (HN.out _ _).mono ?_
    rintro en w' ⟨rfl, rfl⟩
    go_wp2_with fail
    refine (HN.out _ _).mono ?_
    rintro en w' ⟨rfl, rfl⟩
    go_wp2_with fail
    go_ret
    exact ⟨rfl, rfl⟩
  · rw [if_neg h, if_pos h2]
    go_enter Try.func64, Try.ntmps64
    go_wp2_with fail
    refine (HN.out _ _).mono ?_
    rintro en w' ⟨rfl, rfl⟩
    go_wp2_with fail
    refine (HN.out _ _).mono ?_
    rintro en w' ⟨rfl, rfl⟩
    go_wp2_with fail
    go_ret
    exact ⟨rfl, rfl⟩
  · rw [if_neg h, if_neg h2]
    go_enter Try.func64, Try.ntmps64
    go_wp2_with fail
    refine (HN.out _ _).mono ?_
    rintro en w' ⟨rfl, rfl⟩
    go_wp2_with fail
    refine (HN.out _ _).mono ?_
    rintro en w' ⟨rfl, rfl⟩
    go_wp2_with fail
    go_ret
    exact ⟨rfl, rfl⟩

theorem order_any (a b : Nat) (w : World) (ha : a < 2 ^ 64) (hb : b < 2 ^ 64) : Calls Try.prog 53 #[.float .f64 a, .float .f64 b] w fun en w' => en = .returned (.int .i64 (cmpI (ordK a) (ordK b))) ∧ w = w' := by
  have H1 := Lib.hid fun w => key_any a w ha
  have H2 := Lib.hid fun w => key_any b w hb
  have H3 := Lib.hid fun w => cmp64_any (ordK a) (ordK b) w
  generalize cmpI (ordK a) (ordK b) = r at *
  generalize ordK a = x at *
  generalize ordK b = y at *
  go_enter Try.func53, Try.ntmps53
  go_wp2_with fail
  refine (H1.out _).mono ?_
  rintro en w' ⟨rfl, rfl⟩
  go_wp2_with fail
  refine (H2.out _).mono ?_
  rintro en w' ⟨rfl, rfl⟩
  go_wp2_with fail
  refine (H3.out _).mono ?_
  rintro en w' ⟨rfl, rfl⟩
  go_wp2_with fail
  go_ret
  exact ⟨rfl, rfl⟩

/-- Minimum: the lesser one, bit by bit. -/
theorem min_any (a b : Nat) (w : World) (ha : nan64 a = false → a < 2 ^ 64) (hb : nan64 b = false → b < 2 ^ 64) :
    Calls Try.prog 60 #[.float .f64 a, .float .f64 b] w fun en w' => en = .returned (.float .f64 (minF a b)) ∧ w = w' := by
  obtain ⟨r, hr⟩ : ∃ r, r = minF a b := ⟨_, rfl⟩
  rw [← hr]
  unfold minF at hr
  have H1 := Lib.hid fun w => none_any a w
  have H2 := Lib.hid fun w => none_any b w
  cases hna : nan64 a
  · rw [hna] at hr H1
    cases hnb : nan64 b
    · rw [hnb] at hr H2
      simp only [Bool.false_eq_true, if_false] at hr
      have H3 := Lib.hid fun w => order_any a b w (ha hna) (hb hnb)
      have hc : (cmpI (ordK a) (ordK b) ≤ 0) ↔ ordK a ≤ ordK b := by unfold cmpI; (repeat' split) <;> omega
      replace hr : r = if cmpI (ordK a) (ordK b) ≤ 0 then a else b := by rw [hr]; simp only [hc]
      generalize cmpI (ordK a) (ordK b) = c at *
      clear hc ha hb
      by_cases h : c ≤ 0
      · rw [if_pos h] at hr
        subst hr
        go_enter Try.func60, Try.ntmps60
        go_wp2_with fail
        refine (H1.out _).mono ?_
        rintro en w' ⟨rfl, rfl⟩
        go_wp2_with fail
        refine (H2.out _).mono ?_
        rintro en w' ⟨rfl, rfl⟩
        go_wp2_with fail
        refine (H3.out _).mono ?_
        rintro en w' ⟨rfl, rfl⟩
        go_wp2_with fail
        go_ret
        exact ⟨rfl, rfl⟩
      · rw [if_neg h] at hr
        subst hr
        go_enter Try.func60, Try.ntmps60
        go_wp2_with fail
        refine (H1.out _).mono ?_
        rintro en w' ⟨rfl, rfl⟩
        go_wp2_with fail
        refine (H2.out _).mono ?_
        rintro en w' ⟨rfl, rfl⟩
        go_wp2_with fail
        refine (H3.out _).mono ?_
        rintro en w' ⟨rfl, rfl⟩
        go_wp2_with fail
        go_ret
        exact ⟨rfl, rfl⟩
    · rw [hnb] at hr H2
      simp only [Bool.false_eq_true, if_false, if_true] at hr
      subst hr
      clear ha hb
      go_enter Try.func60, Try.ntmps60
      go_wp2_with fail
      refine (H1.out _).mono ?_
      rintro en w' ⟨rfl, rfl⟩
      go_wp2_with fail
      refine (H2.out _).mono ?_
      rintro en w' ⟨rfl, rfl⟩
      go_wp2_with fail
      go_ret
      exact ⟨rfl, rfl⟩
  · rw [hna] at hr H1
    simp only [if_true] at hr
    subst hr
    clear ha hb H2
    go_enter Try.func60, Try.ntmps60
    go_wp2_with fail
    refine (H1.out _).mono ?_
    rintro en w' ⟨rfl, rfl⟩
    go_wp2_with fail
    go_ret
    exact ⟨rfl, rfl⟩

/-- The same, of floats that are known up to which no number they are. -/
theorem minc_any (X Y a b : Nat) (w : World) (hX : cn a = X) (hY : cn b = Y) (hx : X < 2 ^ 64) (hy : Y < 2 ^ 64) :
    Calls Try.prog 60 #[.float .f64 a, .float .f64 b] w fun en w' => ∃ u, en = .returned (.float .f64 u) ∧ cn u = minF X Y ∧ w = w' :=
  (min_any a b w (fun h => by rw [← cn_of a h, hX]; exact hx) (fun h => by rw [← cn_of b h, hY]; exact hy)).mono fun en w' ⟨h1, h2⟩ => ⟨_, h1, by rw [cn_minF, hX, hY], h2⟩

end Go.Proofs.Ytkhdemaanakbeaa
