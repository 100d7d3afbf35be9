/- A list of floats opened: its length is at most its capacity; a float's wellformedness as a bound. No condition. -/
import Derived.Test.YtjakjnmfndfehaaOp
namespace Go.Pst
open Go Go.RowKit Go.ChangeShapes Go.WideShapes Go.ChangeAt Go.Joins Go.Deep
set_option linter.unusedSimpArgs false
set_option linter.unusedVariables false
section
variable {H : Type} {enc : TypeId × Value → H} {P : Program} {w : World} {spare : Nat → Bool} {held : Bool}
theorem len_cap {t e : TypeId} {A : Option Addr} {n c : Nat} {d : DataW H} {p : List MemPlace} (ht : P.underlying t = some (.slice e)) (h : DataW.Trod enc P w 0 spare held t (.slice A n c) d p) : n ≤ c := by
  obtain ⟨fuel, hf0⟩ := h
  have hf : DataW.trod enc P w 0 spare held fuel t [.slice A n c] = some (d, p) := hf0
  rcases open_slice ht hf with ⟨h1, _⟩ | ⟨a, len, cap, m, k, D, Pl, h1, _, hl, _⟩
  · simp only [List.cons.injEq, and_true, Value.slice.injEq] at h1; omega
  · simp only [List.cons.injEq, and_true, Value.slice.injEq] at h1; omega
end
theorem f64_wf {y : Nat} (h : (Lit.float .f64 y).wf = true) : y < 2 ^ 64 := by
  simpa [Lit.wf] using h
theorem f32_wf {y : Nat} (h : (Lit.float .f32 y).wf = true) : y < 2 ^ 32 := by
  simpa [Lit.wf] using h
end Go.Pst
