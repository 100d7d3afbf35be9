/- total: sums in 32 bits: plain and walks; the document's. Condition: at most 65536 numbers. -/
import Derived.Test.YtjakjnmfndfehaaUd
import Derived.Test.YtjakjnmfndfehaaOp
namespace Go.Pst
open Go Ieee Go.Proofs.Ytjakjnmfndfehaa
set_option linter.unusedVariables false
theorem isNaN32 (x : Nat) : (FloatKind.f32.format.read x).isNaN = nan32 x := by
  show (Ieee.single.read x).isNaN = _
  have hb : Ieee.single.binade = 8388608 := by decide
  have hi : Ieee.single.infRung = 2139095040 := by decide
  have hs : Ieee.single.signWeight = 2147483648 := by decide
  unfold Format.read nan32
  simp only [hb, hi, hs]
  by_cases h1 : x % 2147483648 < 8388608
  · rw [if_pos h1, decide_eq_false (by omega)]; rfl
  · rw [if_neg h1]
    by_cases h2 : x % 2147483648 < 2139095040
    · rw [if_pos h2, decide_eq_false (by omega)]; rfl
    · rw [if_neg h2]
      by_cases h3 : x % 2147483648 = 2139095040
      · rw [if_pos h3, decide_eq_false (by omega)]; rfl
      · rw [if_neg h3, decide_eq_true (by omega)]; rfl
def ar32 (x y : Nat) : Option Nat := floatBits .add .f32 x y
theorem ar32_nan {x y : Nat} (h : nan32 x = true) : ar32 x y = none := by
  unfold ar32 floatBits
  show Ieee.single.add x y = none
  unfold Format.add
  rw [sum_nan_left (by rw [← h]; exact isNaN32 x)]; rfl
def arU32 (w : World) (x y : Nat) : Nat := match ar32 x y with | some r => r | none => (Question.nanBits .f32 x y).cut (w.tape w.drawn (.nanBits .f32 x y))
theorem cut_nan32 (q : Nat) (x y : Nat) : nan32 ((Question.nanBits .f32 x y).cut q) = true := by
  unfold Question.cut nan32
  simp only
  rw [decide_eq_true_eq]
  have h1 : q % 2 = 0 ∨ q % 2 = 1 := by omega
  have h2 : q / 2 % (2 ^ 23 - 1) < 2 ^ 23 - 1 := Nat.mod_lt _ (by decide)
  generalize q / 2 % (2 ^ 23 - 1) = z at *
  omega
theorem run_fadd32 (P : Program) (t : TypeId) (x y : Nat) (w : World) : Sem.run P (binOp .add t (.float .f32 x) (.float .f32 y)) w = .ok (.float .f32 (arU32 w x y)) (wIf (ar32 x y).isNone w) := by
  unfold arU32
  cases hd : ar32 x y with
  | some r => simpa [wIf] using run_float_arith w .add t .f32 x y r hd
  | none =>
    unfold ar32 floatBits at hd
    simp only at hd
    simp [binOp, Op.floatArith, hd, Question.forced, wIf]
/-- The sum in 32 bits; none: it is no number. -/
def ss (f : Nat → Nat) : Nat → Option Nat
  | 0 => some 0
  | k + 1 => (ss f k).bind fun r => ar32 r (f k)
def Is32 (S : Nat) : Option Nat → Prop
  | some r => S = r
  | none => nan32 S = true
theorem is32_next {f : Nat → Nat} {k S : Nat} (w : World) (h : Is32 S (ss f k)) : Is32 (arU32 w S (f k)) (ss f (k + 1)) := by
  show Is32 _ ((ss f k).bind fun r => ar32 r (f k))
  cases hs : ss f k with
  | none =>
    rw [hs] at h
    unfold arU32
    rw [ar32_nan h]
    exact cut_nan32 _ _ _
  | some r =>
    rw [hs] at h
    have h' : S = r := h
    subst h'
    show Is32 _ (ar32 S (f k))
    unfold arU32
    cases hr : ar32 S (f k) with
    | none => exact cut_nan32 _ _ _
    | some q => rfl
def ssW : Option Nat → Nat
  | some r => widV r
  | none => NC
theorem widD_nan {c : Nat} (h : nan32 c = true) : widD c = none := by
  have h' : (FloatKind.f32.decode c).isNaN = true := by rw [← h]; exact isNaN32 c
  unfold widD floatToFloatBits
  rw [if_neg (by decide)]
  cases hd : FloatKind.f32.decode c with
  | nan s t => rfl
  | infinity s => rw [hd] at h'; cases h'
  | number s m p => rw [hd] at h'; cases h'
theorem is32_wid {S : Nat} {o : Option Nat} (w : World) (h : Is32 S o) : cn (widU w S) = ssW o := by
  cases o with
  | some r =>
    have h' : S = r := h
    subst h'; exact cn_widU w S
  | none =>
    unfold widU
    rw [widD_nan h]
    exact cn_of_nan _ (cut_conv _ _)
end Go.Pst
namespace Go.Proofs.Ytjakjnmfndfehaa
open Go.RowKit Go.Pst
set_option maxRecDepth 20000
set_option linter.unusedSimpArgs false
set_option linter.unusedVariables false
attribute [local go_sem] run_fadd32
theorem long_f32 (n c : Nat) (A : Option Addr) (w : World) (hn : n ≤ 1099511627776) : Calls Try.prog 88 #[.slice A n c] w fun en w' => en = .returned (.bool (decide (65536 < n))) ∧ w = w' := by
  rw [show decide (65536 < n) = decide ((65536 : Int) < (n : Int)) by rw [decide_eq_decide]; omega]
  go_enter Try.func88, Try.ntmps88
  go_wp2
  go_ret
  exact ⟨rfl, rfl⟩
set_option maxHeartbeats 1000000 in
theorem sum32_any (n c : Nat) (A : Option Addr) (f : Nat → Nat) (w : World) (hA : ListAt w w.heap.size A n (fun i => .float .f32 (f i))) (hn : n ≤ 65536) :
    Calls Try.prog 42 #[.slice A n c] w fun en w' => ∃ u, en = .returned (.tuple #[.float .f32 u, .int .i64 0]) ∧ Is32 u (ss f n) ∧ Below w.heap.size w w' := by
  have HLG := Lib.hid fun w => long_f32 n c A w (by omega)
  rw [decide_eq_false (by omega : ¬ 65536 < n)] at HLG
  have HA := Lib.hid hA
  clear hA
  go_enter Try.func42, Try.ntmps42
  go_wp2_with fail
  refine (HLG.out _).mono ?_
  rintro en w' ⟨rfl, rfl⟩
  go_wp2_with fail
  go_loopw [4, 11] (fun s t wr => ∃ k S : Nat, t = .int .i64 k ∧ k ≤ n ∧ Below w.heap.size w wr ∧ s = .float .f32 S ∧ Is32 S (ss f k)) (fun _ t _ => n - (intOf t).toNat)
  case atStart => exact ⟨0, 0, rfl, by omega, Below.refl _ _, rfl, rfl⟩
  case round =>
    obtain ⟨k, S, rfl, hk, hbw, rfl, hS⟩ := hrel
    have BW := Lib.hid hbw
    have HS := Lib.hid fun w => is32_next (k := k) w hS
    have H0 := Lib.hid hS
    clear hbw hS
    by_cases hkn : k < n
    · have h3 : (k : Int) < (n : Int) := by omega
      have h0 : (0 : Int) ≤ (k : Int) := by omega
      obtain ⟨a, o, rfl, ha, hc⟩ := (HA.out.below BW.out (Nat.le_refl _)) (by omega)
      have q : wr.cell? ⟨a, o + k, none⟩ = some (.float .f32 (f k)) := hc k hkn
      obtain ⟨x, hx⟩ : ∃ x, x = f k := ⟨_, rfl⟩
      rw [← hx] at q HS
      clear hc hx
      go_wp2_with fail
      go_roundw
      case rel => exact ⟨k + 1, _, by go_num, by omega, wIf_below _ _ BW.out, rfl, HS.out _⟩
      case measure => (simp [intOf] <;> omega)
    · obtain rfl : k = n := by omega
      go_wp2_with fail
      go_ret2
      exact ⟨_, rfl, H0.out, BW.out⟩
set_option maxHeartbeats 1000000 in
theorem rsum32_any (n c : Nat) (A : Option Addr) (f : Nat → Nat) (w : World) (hA : ListAt w w.heap.size A n (fun i => .float .f32 (f i))) (hn : n ≤ 65536) :
    Calls Try.prog 45 #[.slice A n c] w fun en w' => ∃ u, en = .returned (.float .f32 u) ∧ Is32 u (ss f n) ∧ Below w.heap.size w w' := by
  have HA := Lib.hid hA
  clear hA
  go_enter Try.func45, Try.ntmps45
  go_wp2_with fail
  go_loopw [3, 4] (fun s t wr => ∃ k S : Nat, t = .int .i64 k ∧ k ≤ n ∧ Below w.heap.size w wr ∧ s = .float .f32 S ∧ Is32 S (ss f k)) (fun _ t _ => n - (intOf t).toNat)
  case atStart => exact ⟨0, 0, rfl, by omega, Below.refl _ _, rfl, rfl⟩
  case round =>
    obtain ⟨k, S, rfl, hk, hbw, rfl, hS⟩ := hrel
    have BW := Lib.hid hbw
    have HS := Lib.hid fun w => is32_next (k := k) w hS
    have H0 := Lib.hid hS
    clear hbw hS
    by_cases hkn : k < n
    · have h3 : (k : Int) < (n : Int) := by omega
      have h0 : (0 : Int) ≤ (k : Int) := by omega
      obtain ⟨a, o, rfl, ha, hc⟩ := (HA.out.below BW.out (Nat.le_refl _)) (by omega)
      have q : wr.cell? ⟨a, o + k, none⟩ = some (.float .f32 (f k)) := hc k hkn
      obtain ⟨x, hx⟩ : ∃ x, x = f k := ⟨_, rfl⟩
      rw [← hx] at q HS
      clear hc hx
      go_wp2_with fail
      go_roundw
      case rel => exact ⟨k + 1, _, by go_num, by omega, wIf_below _ _ BW.out, rfl, HS.out _⟩
      case measure => (simp [intOf] <;> omega)
    · obtain rfl : k = n := by omega
      go_wp2_with fail
      go_ret
      exact ⟨_, rfl, H0.out, BW.out⟩
end Go.Proofs.Ytjakjnmfndfehaa
