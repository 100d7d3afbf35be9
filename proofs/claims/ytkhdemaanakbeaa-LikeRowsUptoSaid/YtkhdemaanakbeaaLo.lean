/- The document's table while it is made: words for the memory. No condition. -/
import Derived.Test.YtkhdemaanakbeaaLm
namespace Go.Proofs.Ytkhdemaanakbeaa
open Go.RowKit Go.Pst
set_option maxRecDepth 20000
set_option linter.unusedSimpArgs false
set_option linter.unusedVariables false

/-- The rows that are done. -/
def RowsR (w : World) (H m i : Nat) (R : Nat → Nat) (T : Nat → Nat → Nat) (t : TypeId) : Prop :=
  ∀ r, r < i → H < R r ∧ ∃ cs, w.heap[R r]? = some (.cells cs t (0, 0)) ∧ ∀ j, j < m → ∃ x, cs[j]? = some (.float .f64 x) ∧ cn x = T r j

section
variable {w w' : World} {H m i : Nat} {R : Nat → Nat} {T : Nat → Nat → Nat} {t : TypeId}
theorem heap_lt {w : World} {k : Nat} {o : Obj} (h : w.heap[k]? = some o) : k < w.heap.size := by
  rcases Nat.lt_or_ge k w.heap.size with h' | h'
  · exact h'
  · rw [Array.getElem?_eq_none h'] at h; cases h
theorem RowsR.lt (h : RowsR w H m i R T t) {r : Nat} (hr : r < i) : R r < w.heap.size := by
  obtain ⟨_, cs, h1, _⟩ := h r hr; exact heap_lt h1
theorem RowsR.below (h : RowsR w H m i R T t) (hb : Below w.heap.size w w') : RowsR w' H m i R T t := fun r hr => by
  obtain ⟨h0, cs, h1, h2⟩ := h r hr
  exact ⟨h0, cs, (hb.block _ (heap_lt h1)).trans h1, h2⟩
theorem RowsR.grown {row : Option Nat} (h : RowsR w H m i R T t) (hg : w.grownBy w' row) (hr : ∀ r, r < i → some (R r) ≠ row) : RowsR w' H m i R T t := fun r hri => by
  obtain ⟨h0, cs, h1, h2⟩ := h r hri
  exact ⟨h0, cs, (hg.block _ (heap_lt h1) (hr r hri)).trans h1, h2⟩
theorem RowsR.cell (h : RowsR w H m i R T t) {r j : Nat} (hr : r < i) (hj : j < m) : ∃ x, w.cell? ⟨R r, j, none⟩ = some (.float .f64 x) ∧ cn x = T r j := by
  obtain ⟨h0, cs, h1, h2⟩ := h r hr
  obtain ⟨x, h3, h4⟩ := h2 j hj
  exact ⟨x, by rw [cell_of_row w (R r) j cs t (0, 0) h1]; exact h3, h4⟩

theorem own_below {base : Nat} {e : TypeId} {size n : Nat} {v : Value} {xs : List Value} (h : w.ownsRow base e size v n xs) (hb : Below w.heap.size w w') : w'.ownsRow base e size v n xs := by
  refine ⟨h.1, ?_⟩
  rcases h.2 with h2 | ⟨g, cap, cur, h1, h2, h3, h4⟩
  · exact .inl h2
  · exact .inr ⟨g, cap, cur, h1, h2, (hb.block g (heap_lt h3)).trans h3, h4⟩

theorem BoxAt.grown {cs : Array Value} {row : Option Nat} (h : BoxAt w H cs) (hg : w.grownBy w' row) (hH : H < w.heap.size) (hr : row ≠ some H) : BoxAt w' H cs := fun k => by
  rw [hg.cell_far _ hH (Ne.symm hr)]; exact h k
end

/-- The numbers of a row that is being made. -/
def nums (f : Nat → Nat) (j : Nat) : List Value := (List.range j).map fun k => .float .f64 (f k)
/-- The rows as the outer slice has them. -/
def rows (R C : Nat → Nat) (m i : Nat) : List Value := (List.range i).map fun r => .slice (some ⟨R r, 0, none⟩) m (C r)

theorem nums_succ (f : Nat → Nat) (j z : Nat) : nums f j ++ [.float .f64 z] = nums (fun k => if k = j then z else f k) (j + 1) := by
  unfold nums
  rw [List.range_succ, List.map_append]
  congr 1
  · apply List.map_congr_left
    intro k hk
    have : k ≠ j := by have := List.mem_range.1 hk; omega
    simp [this]
  · simp
theorem rows_succ (R C : Nat → Nat) (m i g c : Nat) : rows R C m i ++ [.slice (some ⟨g, 0, none⟩) m c] = rows (fun r => if r = i then g else R r) (fun r => if r = i then c else C r) m (i + 1) := by
  unfold rows
  rw [List.range_succ, List.map_append]
  congr 1
  · apply List.map_congr_left
    intro k hk
    have : k ≠ i := by have := List.mem_range.1 hk; omega
    simp [this]
  · simp
theorem nums_get (f : Nat → Nat) {j k : Nat} (h : k < j) : (nums f j)[k]? = some (.float .f64 (f k)) := by
  unfold nums; rw [List.getElem?_map, List.getElem?_range h]; rfl
theorem rows_get (R C : Nat → Nat) (m : Nat) {i r : Nat} (h : r < i) : (rows R C m i)[r]? = some (.slice (some ⟨R r, 0, none⟩) m (C r)) := by
  unfold rows; rw [List.getElem?_map, List.getElem?_range h]; rfl

theorem own_cell {w : World} {base g cap n : Nat} {e : TypeId} {xs : List Value} {u : Value} (h : w.ownsRow base e 1 (.slice (some ⟨g, 0, none⟩) n cap) n xs) {j : Nat} (hu : xs[j]? = some u) : w.cell? ⟨g, j, none⟩ = some u := by
  have := h.cells (g := g) rfl j u hu
  have ha : ((⟨g, 0, none⟩ : Addr).add j) = ⟨g, j, none⟩ := by unfold Addr.add; split <;> simp_all
  rwa [ha] at this

/-- What a row's block is when it is done. -/
theorem row_done {w : World} {base g cap n H : Nat} {e : TypeId} {f : Nat → Nat} {T : Nat → Nat → Nat} {i : Nat} (h : w.ownsRow base e 1 (.slice (some ⟨g, 0, none⟩) n cap) n (nums f n)) (hH : H < base)
    (hf : ∀ k, k < n → cn (f k) = T i k) : H < g ∧ ∃ cs, w.heap[g]? = some (.cells cs e (0, 0)) ∧ ∀ j, j < n → ∃ x, cs[j]? = some (.float .f64 x) ∧ cn x = T i j := by
  rcases h.2 with ⟨h1, _⟩ | ⟨g', cap', cur, h1, h2, h3, h4, h5, h6, h7⟩
  · cases h1
  · injection h1 with h1 _ _
    injection h1 with h1
    injection h1 with h1
    subst h1
    refine ⟨by omega, cur, h3, fun j hj => ⟨f j, ?_, hf j hj⟩⟩
    have hu := nums_get f hj
    rw [← h7, Nat.mul_one, List.getElem?_take_of_lt hj] at hu
    simpa using hu

end Go.Proofs.Ytkhdemaanakbeaa
