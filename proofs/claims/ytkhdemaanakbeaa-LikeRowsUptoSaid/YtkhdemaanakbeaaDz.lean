/- How many pieces two names have in common: the program, at whatever size. Condition: names of at most 2^45 code points. -/
import Derived.Test.YtkhdemaanakbeaaDv
namespace Go.Proofs.Ytkhdemaanakbeaa
open Go.RowKit Go.Pst
set_option maxRecDepth 20000
set_option linter.unusedSimpArgs false
set_option linter.unusedVariables false
attribute [local go_sem] run_fmul run_fquo
def diE (size : Int) : Int := if diBad size then 1 else 0
set_option maxHeartbeats 1000000 in
theorem dice_bad (A B : Option Addr) (n m c d : Nat) (size : Int) (t : Nat) (w : World) (hs : diBad size = true) :
    Calls Try.prog 37 #[.slice A n c, .slice B m d, .int .i64 size] w (SharePost t 1 w) := by
  unfold diBad at hs
  by_cases h1 : size < 1
  · clear hs
    go_enter Try.func37, Try.ntmps37
    go_wp2_with fail
    go_ret2
    exact ⟨0, rfl, fun _ => rfl, fun h => absurd h (by decide), Below.refl _ _⟩
  · by_cases h2 : 16 < size
    · clear hs
      have h3 : decide (size < 1) = false := decide_eq_false h1
      have h4 : decide (16 < size) = true := decide_eq_true h2
      go_enter Try.func37, Try.ntmps37
      go_wp2_with fail
      go_ret2
      exact ⟨0, rfl, fun _ => rfl, fun h => absurd h (by decide), Below.refl _ _⟩
    · rw [decide_eq_false h1, decide_eq_false h2] at hs
      cases hs
set_option maxHeartbeats 3000000 in
theorem dice_none (A B : Option Addr) (n m c d size : Nat) (kA kB : Nat → List UInt8) (w : World) (hs1 : 1 ≤ size) (hs2 : size ≤ 16) (hn : n < size) (hm : m < size)
    (hA : Calls Try.prog 57 #[.slice A n c, .int .i64 size] w (PiePost kA (n + 1 - size) w))
    (hB : ∀ w', Below w.heap.size w w' → Calls Try.prog 57 #[.slice B m d, .int .i64 size] w' (PiePost kB (m + 1 - size) w')) :
    Calls Try.prog 37 #[.slice A n c, .slice B m d, .int .i64 size] w (SharePost ONE 0 w) := by
  have HA := Lib.hid hA; have HB := Lib.hid hB
  clear hA hB
  have s1 : ¬ (size : Int) < 1 := by omega
  have s2 : ¬ 16 < (size : Int) := by omega
  go_enter Try.func37, Try.ntmps37
  go_wp2_with fail
  refine HA.out.mono ?_
  rintro en w1 ⟨D1, rfl, hm1, hsy1, hb1⟩
  have B1 := Lib.hid hb1
  have hz1 := hb1.size
  clear hm1 hsy1 hb1
  go_wp2_with fail
  refine (HB.out _ B1.out).mono ?_
  rintro en w2 ⟨D2, rfl, hm2, hsy2, hb2⟩
  have B2 := Lib.hid (B1.out.trans (hb2.mono hz1))
  clear hm2 hsy2 hb2
  go_upto_region 4 with fail
  go_cut [10] (fun s wx => s = .int .i64 0 ∧ wx = w2)
  case first =>
    go_wp2_with fail
    all_goals
      go_meet
      case rel => exact ⟨congrArg (Value.int .i64) (by omega), rfl⟩
  case rest =>
    obtain ⟨rfl, hwc⟩ := hcut
    obtain rfl := hwc.symm
    go_wp2_with fail
    go_ret2
    exact ⟨ONE, rfl, fun h => absurd rfl h, fun _ => by decide, B2.out⟩
theorem size_good {size : Int} (h : diBad size = false) : size = (size.toNat : Int) ∧ 1 ≤ size.toNat ∧ size.toNat ≤ 16 := by
  unfold diBad at h
  simp only [Bool.or_eq_false_iff, decide_eq_false_iff_not] at h
  omega
/-- The share itself, the size as it is given. -/
def diW (n m : Nat) (size : Int) (fa fb : Nat → Int) : Nat := diV n m size.toNat fa fb
theorem dice_any (A B : Option Addr) (n m c d : Nat) (size : Int) (fa fb : Nat → Int) (w : World) (hA : NameAt w w.heap.size A n fa) (hB : NameAt w w.heap.size B m fb) (hn : n ≤ 35184372088832) (hm : m ≤ 35184372088832) (hc : n ≤ c) (hd : m ≤ d) :
    Calls Try.prog 37 #[.slice A n c, .slice B m d, .int .i64 size] w (SharePost (diW n m size fa fb) (diE size) w) := by
  cases hb : diBad size
  · obtain ⟨h1, h2, h3⟩ := size_good hb
    have e : diE size = 0 := by unfold diE; rw [hb]; rfl
    rw [e]
    unfold diW
    generalize size.toNat = s at *
    subst h1
    have hpA := pieces_any A n c s fa w hA hn hc h2 h3
    have hpB : ∀ w', Below w.heap.size w w' → Calls Try.prog 57 #[.slice B m d, .int .i64 s] w' (PiePost (pcK fb s) (m + 1 - s) w') := fun w' hb' =>
      pieces_any B m d s fb w' ((hB.below hb' (Nat.le_refl _)).more hb'.size) hm hd h2 h3
    by_cases h0 : (n + 1 - s) + (m + 1 - s) = 0
    · unfold diV; rw [if_pos h0]
      exact dice_none A B n m c d s _ _ w h2 h3 (by omega) (by omega) hpA hpB
    · unfold diV; rw [if_neg h0]
      have hl := diG_le n m s fa fb
      rw [← two_fl (show diG n m s fa fb < 2 ^ 52 by omega)]
      exact dice_core A B n m c d s _ _ _ w hn hm h2 h3 (by unfold diG; rw [dC_gL]) h0 hpA hpB
  · have e : diE size = 1 := by unfold diE; rw [hb]; rfl
    rw [e]
    exact dice_bad A B n m c d size _ w hb
end Go.Proofs.Ytkhdemaanakbeaa
