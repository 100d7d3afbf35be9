/- Least: the least of floats and its place. Condition: the bits fit, there are not too many. -/
import Derived.Test.YtpemchghaddgdaaEx
namespace Go.Proofs.Ytpemchghaddgdaa
open Go.RowKit Go.Pst
set_option maxRecDepth 20000
set_option linter.unusedSimpArgs false
set_option linter.unusedVariables false

def leastT (x : Nat) (y : Nat → Nat) : Nat → Nat × Nat
  | 0 => (x, 0)
  | k + 1 => if keyT (y k) < keyT (leastT x y k).1 then (y k, k + 1) else leastT x y k

theorem leastT_lt {x : Nat} {y : Nat → Nat} (hx : x < 2 ^ 64) : ∀ k, (∀ i, i < k → y i < 2 ^ 64) → (leastT x y k).1 < 2 ^ 64
  | 0, _ => hx
  | k + 1, h => by rw [leastT]; split; exact h k (by omega); exact leastT_lt hx k fun i hi => h i (by omega)

def FloatsAt (w : World) (A : Option Addr) (n : Nat) (y : Nat → Nat) : Prop := 0 < n → ∃ g, A = some ⟨g, 0, none⟩ ∧ g < w.heap.size ∧ ∀ i, i < n → w.cell? ⟨g, i, none⟩ = some (.float .f64 (y i))

set_option maxHeartbeats 2000000 in
theorem leastOf_any (x n c : Nat) (A : Option Addr) (y : Nat → Nat) (w : World) (hx : x < 2 ^ 64) (hy : ∀ i, i < n → y i < 2 ^ 64) (hn : n ≤ 17592186044416) (hA : FloatsAt w A n y) :
    Calls Try.prog 53 #[.float .f64 x, .slice A n c] w fun en w' => en = .returned (.tuple #[.float .f64 (leastT x y n).1, .int .i64 (leastT x y n).2]) ∧ Below w.heap.size w w' := by
  have HA := Lib.hid hA; have HY := Lib.hid hy; clear hA hy
  go_enter Try.func53, Try.ntmps53
  go_wp2_with fail
  go_loopw [6, 7, 13] (fun m p t wr => ∃ k : Nat, t = .int .i64 k ∧ k ≤ n ∧ m = .float .f64 (leastT x y k).1 ∧ p = .int .i64 (leastT x y k).2 ∧ wr = w) (fun _ _ t _ => n - (intOf t).toNat)
  case atStart => exact ⟨0, rfl, by omega, rfl, rfl, rfl⟩
  case round =>
    obtain ⟨k, rfl, hk, rfl, rfl, rfl⟩ := hrel
    obtain ⟨l, hl⟩ : ∃ l, l = leastT x y k := ⟨_, rfl⟩
    rw [← hl]
    by_cases hkn : k < n
    · obtain ⟨g, rfl, hg, hc⟩ := HA.out (by omega)
      have q := hc k hkn
      have hk1 : (k : Int) < (n : Int) := by omega
      have l1 : l.1 < 2 ^ 64 := by rw [hl]; exact leastT_lt hx k fun i hi => HY.out i (by omega)
      have HO := Lib.hid fun w => order_any (y k) l.1 w (HY.out k hkn) l1
      have hc2 : (cmpI (keyT (y k)) (keyT l.1) < 0) ↔ keyT (y k) < keyT l.1 := by unfold cmpI; (repeat' split) <;> omega
      have hs : leastT x y (k + 1) = if cmpI (keyT (y k)) (keyT l.1) < 0 then (y k, k + 1) else l := by rw [leastT, ← hl]; simp only [hc2]
      generalize cmpI (keyT (y k)) (keyT l.1) = o at *
      have HS := Lib.hid hs; clear hs hc2 hc hl l1
      by_cases h : o < 0
      · go_wp2_with fail
        refine (HO.out _).mono ?_
        rintro en w' ⟨rfl, rfl⟩
        go_wp2_with fail
        go_roundw
        case rel => exact ⟨k + 1, by go_num, by omega, by rw [HS.out, if_pos h], by rw [HS.out, if_pos h]; go_num, by first | exact rfl | exact trivial⟩
        case measure => simp [intOf]; omega
      · go_wp2_with fail
        refine (HO.out _).mono ?_
        rintro en w' ⟨rfl, rfl⟩
        go_wp2_with fail
        go_roundw
        case rel => exact ⟨k + 1, by go_num, by omega, by rw [HS.out, if_neg (by omega)], by rw [HS.out, if_neg (by omega)], by first | exact rfl | exact trivial⟩
        case measure => simp [intOf]; omega
    · obtain rfl : k = n := by omega
      have hk1 : ¬ (k : Int) < (k : Int) := by omega
      have HL := Lib.hid hl
      go_wp2_with fail
      go_ret2
      exact ⟨by rw [← HL.out]; rfl, Below.refl _ _⟩

end Go.Proofs.Ytpemchghaddgdaa
