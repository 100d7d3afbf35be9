/- The floor's externs: RoundToEven and archTrunc run. Condition: the bits fit. -/
import Derived.Test.YtpemchghaddgdaaWh
import Derived.Test.YtpemchghaddgdaaLq
import Derived.Test.YtpemchghaddgdaaRows
namespace Go.Pst
open Go Ieee Go.RowKit
set_option linter.unusedVariables false

def qMF : Question := .extern "math.Floor,Ceil,Trunc,RoundToEven.signallingNaN kept" 2
/-- Is there a question of which no number comes out. -/
def sigB (b : Nat) : Bool := match FloatKind.f64.decode b with
  | .nan s t => !(FloatKind.f64.format.quiet t == t)
  | _ => false
/-- What comes out. -/
def intU (way : Toward) (w : World) (b : Nat) : Nat := match FloatKind.f64.decode b with
  | .nan s t => if FloatKind.f64.format.quiet t = t then b else if qMF.cut (w.tape w.drawn qMF) == 1 then b else FloatKind.f64.encode (.nan s (FloatKind.f64.format.quiet t))
  | d => FloatKind.f64.encode (d.integral way)

theorem toInt_eq (name : String) (way : Toward) (b : Nat) : Extern.MathFloor.toIntegral name way #[.float .f64 b] = (match FloatKind.f64.decode b with
  | .nan s t => if FloatKind.f64.format.quiet t = t then pure (.float .f64 b) else choose qMF >>= fun kept => pure (.float .f64 (if kept == 1 then b else FloatKind.f64.encode (.nan s (FloatKind.f64.format.quiet t))))
  | d => pure (.float .f64 (FloatKind.f64.encode (d.integral way)))) := rfl

theorem run_integral (P : Program) (name : String) (way : Toward) (b : Nat) (w : World) : (Extern.MathFloor.toIntegral name way #[.float .f64 b]).run P w = .ok (.float .f64 (intU way w b)) (wIf (sigB b) w) := by
  rw [toInt_eq]
  unfold intU sigB
  cases hd : FloatKind.f64.decode b with
  | nan s t =>
    simp only
    by_cases hq : FloatKind.f64.format.quiet t = t
    · simp [hq, wIf]
    · have hf : qMF.forced = false := by rfl
      rw [if_neg hq, if_neg hq]
      show Sem.run P (choose qMF >>= _) w = _
      simp [hf, hq, wIf]
  | infinity s => rfl
  | number s m p => rfl

theorem intU_fin (way : Toward) (w : World) (b : Nat) (hn : nan64 b = false) : intU way w b = Ieee.double.write ((Ieee.double.read b).integral way) := by
  have h := isNaN64 b
  rw [hn] at h
  unfold intU
  change (FloatKind.f64.decode b).isNaN = false at h
  change _ = FloatKind.f64.encode ((FloatKind.f64.decode b).integral way)
  cases hd : FloatKind.f64.decode b with
  | nan s t => rw [hd] at h; cases h
  | infinity s => rfl
  | number s m p => rfl

theorem intU_nan (way : Toward) (w : World) (b : Nat) (hb : b < 2 ^ 64) (hn : nan64 b = true) : nan64 (intU way w b) = true := by
  have hr : FloatKind.f64.decode b = .nan (negB b) (b % 9223372036854775808 - 9218868437227405312) := by
    show Ieee.double.read b = _
    rw [read64 b hb, hn]; rfl
  unfold intU
  rw [hr]
  simp only
  split
  · exact hn
  · split
    · exact hn
    · unfold nan64 at hn
      simp only [decide_eq_true_eq] at hn
      obtain ⟨t, ht⟩ : ∃ t, t = b % 9223372036854775808 - 9218868437227405312 := ⟨_, rfl⟩
      rw [← ht]
      have hz : (t ||| 2 ^ 51) % Ieee.double.binade = t ||| 2 ^ 51 := by
        have h0 : t ||| 2 ^ 51 < 2 ^ 52 := Nat.or_lt_two_pow (by omega) (by omega)
        rw [bin64]; exact Nat.mod_eq_of_lt (Nat.lt_of_lt_of_le h0 (by decide))
      show nan64 (Ieee.double.word (negB b) (Ieee.double.infRung + (t ||| 2 ^ 51) % Ieee.double.binade)) = true
      rw [hz]
      have h1 : t ||| 2 ^ 51 < 2 ^ 52 := Nat.or_lt_two_pow (by omega) (by omega)
      have h2 : 2 ^ 51 ≤ t ||| 2 ^ 51 := Nat.right_le_or
      generalize t ||| 2 ^ 51 = z at *
      rw [word64, ir64]
      unfold nan64
      rw [(wrd_lt _ _ (by omega)).2.1]
      simp only [decide_eq_true_eq]; omega

end Go.Pst
namespace Go.Proofs.Ytpemchghaddgdaa
open Go.RowKit Go.Pst
set_option maxRecDepth 20000
set_option linter.unusedSimpArgs false
set_option linter.unusedVariables false

theorem xeven0 (b : Nat) (w : World) : (callFunc 87 #[.float .f64 b]).run Try.prog w = (Extern.MathFloor.toIntegral "math.RoundToEven" .even #[.float .f64 b] >>= fun v => pure (.value v)).run Try.prog w := by kernel_rfl
theorem xtrunc0 (b : Nat) (w : World) : (callFunc 105 #[.float .f64 b]).run Try.prog w = (Extern.MathFloor.toIntegral "math.archTrunc" .zero #[.float .f64 b] >>= fun v => pure (.value v)).run Try.prog w := by kernel_rfl
theorem xeven (b : Nat) (w : World) : (callFunc 87 #[.float .f64 b]).run Try.prog w = .ok (.value (.float .f64 (intU .even w b))) (wIf (sigB b) w) := by
  rw [xeven0]; simp [run_integral]
theorem xtrunc (b : Nat) (w : World) : (callFunc 105 #[.float .f64 b]).run Try.prog w = .ok (.value (.float .f64 (intU .zero w b))) (wIf (sigB b) w) := by
  rw [xtrunc0]; simp [run_integral]

end Go.Proofs.Ytpemchghaddgdaa
