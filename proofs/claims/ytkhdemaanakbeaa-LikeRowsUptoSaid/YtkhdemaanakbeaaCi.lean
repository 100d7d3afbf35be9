/- A table of whole numbers while a row of the call's own grows: words for the memory. No condition. -/
import Derived.Test.YtkhdemaanakbeaaCf
import Derived.Test.YtkhdemaanakbeaaCh
namespace Go.Proofs.Ytkhdemaanakbeaa
open Go.RowKit Go.Pst
set_option maxRecDepth 20000
set_option linter.unusedSimpArgs false
set_option linter.unusedVariables false

section
variable {w w' : World} {H B n m lo : Nat} {R C : Nat → Nat} {G G' : Nat → Nat → Int}

theorem IG.grown {row : Option Nat} (g : IG w H B n m lo R C G) (hg : w.grownBy w' row) (h0 : row ≠ some B) (h1 : ∀ r, lo ≤ r → r < n → row ≠ some (R r)) : IG w' H B n m lo R C G where
  dlt := Nat.lt_of_lt_of_le g.dlt hg.size
  hB := g.hB
  dfr r := by rw [hg.frozen_far ⟨B, r, none⟩ g.dlt (Ne.symm h0)]; exact g.dfr r
  done r h1 h2 := by rw [hg.cell_far _ (show B < w.heap.size from g.dlt) (Ne.symm h0)]; exact g.done r h1 h2
  todo r h1 := by rw [hg.cell_far _ (show B < w.heap.size from g.dlt) (Ne.symm h0)]; exact g.todo r h1
  rlt r h1 h2 := ⟨(g.rlt r h1 h2).1, (g.rlt r h1 h2).2.1, Nat.lt_of_lt_of_le (g.rlt r h1 h2).2.2 hg.size⟩
  inj := g.inj
  rfr r j h3 h2 := by rw [hg.frozen_far _ (show R r < w.heap.size from (g.rlt r h3 h2).2.2) (Ne.symm (h1 r h3 h2))]; exact g.rfr r j h3 h2
  cell r j h3 h2 hj := by rw [hg.cell_far _ (show R r < w.heap.size from (g.rlt r h3 h2).2.2) (Ne.symm (h1 r h3 h2))]; exact g.cell r j h3 h2 hj

theorem own_less {base base' : Nat} {e : TypeId} {size n : Nat} {v : Value} {xs : List Value} (h : w.ownsRow base e size v n xs) (hb : base' ≤ base) : w.ownsRow base' e size v n xs := by
  refine ⟨h.1, ?_⟩
  rcases h.2 with h2 | ⟨g, cap, cur, h1, h2, h3⟩
  · exact .inl h2
  · exact .inr ⟨g, cap, cur, h1, by omega, h3⟩

end
end Go.Proofs.Ytkhdemaanakbeaa
