/- total: polynomials: walks; the document's. Condition: at most 65536 numbers. -/
import Derived.Test.YtjakjnmfndfehaaTx
namespace Go.Proofs.Ytjakjnmfndfehaa
open Go.RowKit Go.Pst
set_option maxRecDepth 20000
set_option linter.unusedSimpArgs false
set_option linter.unusedVariables false
attribute [local go_sem] run_fadd run_fsub run_fmul

/-- A polynomial after j steps, from the last of n numbers on. -/
def poS (f : Nat → Nat) (x n : Nat) : Nat → Nat
  | 0 => f (n - 1)
  | j + 1 => arV .add (arV .mul (poS f x n j) x) (f (n - 2 - j))
def poV (f : Nat → Nat) (x n : Nat) : Nat := if n = 0 then 0 else poS f x n (n - 1)
set_option maxHeartbeats 1000000 in
theorem poly_any (n c x : Nat) (A : Option Addr) (f : Nat → Nat) (w : World) (hA : FlAt w w.heap.size A n f) (hn : n ≤ 65536) :
    Calls Try.prog 50 #[.slice A n c, .float .f64 x] w (FeLike (poV f x n) 0 w) := by
  have HLG := Lib.hid fun w => long_f n c A w (by omega)
  rw [decide_eq_false (by omega : ¬ 65536 < n)] at HLG
  have HA := Lib.hid hA
  unfold poV
  by_cases h0 : n = 0
  · subst h0
    rw [if_pos rfl]
    clear hA
    go_enter Try.func50, Try.ntmps50
    go_wp2_with fail
    refine (HLG.out _).mono ?_
    rintro en w' ⟨rfl, rfl⟩
    go_wp2_with fail
    go_ret2
    exact ⟨0, rfl, rfl, Below.refl _ _⟩
  · rw [if_neg h0]
    obtain ⟨a, o, rfl, ha, hc⟩ := hA (by omega)
    have q := hc (n - 1) (by omega)
    obtain ⟨y, hy⟩ : ∃ y, y = f (n - 1) := ⟨_, rfl⟩
    rw [← hy] at q
    have HY : Hid (cn y = cn (poS f x n 0)) := Lib.hid (by rw [hy]; rfl)
    obtain ⟨m, hm⟩ : ∃ m : Nat, (n : Int) - 1 = (m : Int) := ⟨n - 1, by omega⟩
    rw [show n - 1 = m by omega] at q ⊢
    have hm1 : (m : Int) < (n : Int) := by omega
    have hm0 : (0 : Int) ≤ (m : Int) := by omega
    have hN0 : ((n : Int) == 0) = false := by simp; omega
    have hN1 : ¬ (n : Int) = 0 := by omega
    clear hc hy h0
    go_enter Try.func50, Try.ntmps50
    go_wp2_with fail
    refine (HLG.out _).mono ?_
    rintro en w' ⟨rfl, rfl⟩
    go_wp2_with fail
    clear q
    go_loopw [6, 7] (fun s t wr => ∃ j S : Nat, t = .int .i64 ((n : Int) - 2 - (j : Int)) ∧ j + 1 ≤ n ∧ Below w.heap.size w wr ∧ s = .float .f64 S ∧ cn S = cn (poS f x n j)) (fun _ t _ => (intOf t + 1).toNat)
    case atStart => exact ⟨0, y, by simp, by omega, Below.refl _ _, rfl, HY.out⟩
    case round =>
      obtain ⟨j, S, rfl, hj, hbw, rfl, hS⟩ := hrel
      have BW := Lib.hid hbw; have HS := Lib.hid hS
      clear hbw hS
      by_cases hjn : j + 1 < n
      · obtain ⟨i, hi⟩ : ∃ i : Nat, (n : Int) - 2 - (j : Int) = (i : Int) := ⟨n - 2 - j, by omega⟩
        rw [hi]
        have h3 : (i : Int) < (n : Int) := by omega
        have h0 : (0 : Int) ≤ (i : Int) := by omega
        have hi2 : i = n - 2 - j := by omega
        obtain ⟨a9, o9, e9, ha9, hc⟩ := (HA.out.below BW.out (Nat.le_refl _)) (by omega)
        cases e9
        have q := hc i (by omega)
        have e1 : poS f x n (j + 1) = arV .add (arV .mul (poS f x n j) x) (f (n - 2 - j)) := rfl
        rw [← hi2] at e1
        obtain ⟨y, hy⟩ : ∃ y, y = f i := ⟨_, rfl⟩
        rw [← hy] at q e1
        have E1 := Lib.hid e1
        have hrel2 : (i : Int) - 1 = (n : Int) - 2 - ((j + 1 : Nat) : Int) := by omega
        have HR2 := Lib.hid hrel2
        clear hc hy e1 hi2 hi hrel2
        go_wp2_with fail
        go_roundw
        case rel => exact ⟨j + 1, _, by rw [HR2.out], by omega, wIf_below _ _ (wIf_below _ _ BW.out), rfl, by rw [E1.out]; exact arU_of2 (arU_of2 HS.out rfl) rfl⟩
        case measure => (simp [intOf] <;> omega)
      · have hl : (n : Int) - 2 - (j : Int) < 0 := by omega
        have hjm : j = m := by omega
        have HJ := Lib.hid hjm
        clear hjm
        go_wp2_with fail
        go_ret2
        exact ⟨_, rfl, by rw [← HJ.out]; exact HS.out, BW.out⟩
set_option maxHeartbeats 1000000 in
theorem rpoly_any (n c x : Nat) (A : Option Addr) (f : Nat → Nat) (w : World) (hA : FlAt w w.heap.size A n f) (hn : n ≤ 65536) :
    Calls Try.prog 51 #[.slice A n c, .float .f64 x] w (FlLike (poV f x n) w) := by
  have HA := Lib.hid hA
  unfold poV
  by_cases h0 : n = 0
  · subst h0
    rw [if_pos rfl]
    clear hA
    go_enter Try.func51, Try.ntmps51
    go_wp2_with fail
    go_ret
    exact ⟨0, rfl, rfl, Below.refl _ _⟩
  · rw [if_neg h0]
    obtain ⟨a, o, rfl, ha, hc⟩ := hA (by omega)
    have q := hc (n - 1) (by omega)
    obtain ⟨y, hy⟩ : ∃ y, y = f (n - 1) := ⟨_, rfl⟩
    rw [← hy] at q
    have HY : Hid (cn y = cn (poS f x n 0)) := Lib.hid (by rw [hy]; rfl)
    obtain ⟨m, hm⟩ : ∃ m : Nat, (n : Int) - 1 = (m : Int) := ⟨n - 1, by omega⟩
    rw [show n - 1 = m by omega] at q ⊢
    have hm1 : (m : Int) < (n : Int) := by omega
    have hm0 : (0 : Int) ≤ (m : Int) := by omega
    have hN0 : ((n : Int) == 0) = false := by simp; omega
    have hN1 : ¬ (n : Int) = 0 := by omega
    clear hc hy h0
    go_enter Try.func51, Try.ntmps51
    go_wp2_with fail
    clear q
    go_loopw [5, 6] (fun s t wr => ∃ j S : Nat, t = .int .i64 ((n : Int) - 2 - (j : Int)) ∧ j + 1 ≤ n ∧ Below w.heap.size w wr ∧ s = .float .f64 S ∧ cn S = cn (poS f x n j)) (fun _ t _ => (intOf t + 1).toNat)
    case atStart => exact ⟨0, y, by simp, by omega, Below.refl _ _, rfl, HY.out⟩
    case round =>
      obtain ⟨j, S, rfl, hj, hbw, rfl, hS⟩ := hrel
      have BW := Lib.hid hbw; have HS := Lib.hid hS
      clear hbw hS
      by_cases hjn : j + 1 < n
      · obtain ⟨i, hi⟩ : ∃ i : Nat, (n : Int) - 2 - (j : Int) = (i : Int) := ⟨n - 2 - j, by omega⟩
        rw [hi]
        have h3 : (i : Int) < (n : Int) := by omega
        have h0 : (0 : Int) ≤ (i : Int) := by omega
        have hi2 : i = n - 2 - j := by omega
        obtain ⟨a9, o9, e9, ha9, hc⟩ := (HA.out.below BW.out (Nat.le_refl _)) (by omega)
        cases e9
        have q := hc i (by omega)
        have e1 : poS f x n (j + 1) = arV .add (arV .mul (poS f x n j) x) (f (n - 2 - j)) := rfl
        rw [← hi2] at e1
        obtain ⟨y, hy⟩ : ∃ y, y = f i := ⟨_, rfl⟩
        rw [← hy] at q e1
        have E1 := Lib.hid e1
        have hrel2 : (i : Int) - 1 = (n : Int) - 2 - ((j + 1 : Nat) : Int) := by omega
        have HR2 := Lib.hid hrel2
        clear hc hy e1 hi2 hi hrel2
        go_wp2_with fail
        go_roundw
        case rel => exact ⟨j + 1, _, by rw [HR2.out], by omega, wIf_below _ _ (wIf_below _ _ BW.out), rfl, by rw [E1.out]; exact arU_of2 (arU_of2 HS.out rfl) rfl⟩
        case measure => (simp [intOf] <;> omega)
      · have hl : (n : Int) - 2 - (j : Int) < 0 := by omega
        have hjm : j = m := by omega
        have HJ := Lib.hid hjm
        clear hjm
        go_wp2_with fail
        go_ret
        exact ⟨_, rfl, by rw [← HJ.out]; exact HS.out, BW.out⟩
end Go.Proofs.Ytjakjnmfndfehaa
