/- total: a row of floats that is made by append: words for the memory. No condition. -/
import Derived.Test.YtjakjnmfndfehaaTz
import Derived.Test.YtjakjnmfndfehaaTy
import Derived.Deep.AppendLies
namespace Go.Proofs.Ytjakjnmfndfehaa
open Go.RowKit Go.Pst
set_option maxRecDepth 20000
set_option linter.unusedSimpArgs false
set_option linter.unusedVariables false

theorem own_below {w w' : World} {base : Nat} {e : TypeId} {size n : Nat} {v : Value} {xs : List Value} (h : w.ownsRow base e size v n xs) (hb : Below w.heap.size w w') : w'.ownsRow base e size v n xs := by
  refine ⟨h.1, ?_⟩
  rcases h.2 with h2 | ⟨g, cap, cur, h1, h2, h3, h4⟩
  · exact .inl h2
  · exact .inr ⟨g, cap, cur, h1, h2, (hb.block g (Array.getElem?_eq_some_iff.1 h3).1).trans h3, h4⟩

theorem infoNum : (Try.prog.info? 24).map (fun i => (i.zero, i.size, i.bytes)) = some (some (.float .f64 0), 1, 8) := by kernel_rfl

def nums (f : Nat → Nat) (j : Nat) : List Value := (List.range j).map fun k => .float .f64 (f k)

theorem nums_succ (f : Nat → Nat) (j z : Nat) : nums f j ++ [.float .f64 z] = nums (fun k => if k = j then z else f k) (j + 1) := by
  unfold nums
  rw [List.range_succ, List.map_append]
  congr 1
  · apply List.map_congr_left
    intro k hk
    have : k ≠ j := by have := List.mem_range.1 hk; omega
    simp [this]
  · simp

theorem nums_get (f : Nat → Nat) {j k : Nat} (h : k < j) : (nums f j)[k]? = some (.float .f64 (f k)) := by
  unfold nums; rw [List.getElem?_map, List.getElem?_range h]; rfl

theorem own_cell {w : World} {base g cap n : Nat} {e : TypeId} {xs : List Value} {u : Value} (h : w.ownsRow base e 1 (.slice (some ⟨g, 0, none⟩) n cap) n xs) {j : Nat} (hu : xs[j]? = some u) : w.cell? ⟨g, j, none⟩ = some u := by
  have := h.cells (g := g) rfl j u hu
  have ha : ((⟨g, 0, none⟩ : Addr).add j) = ⟨g, j, none⟩ := by unfold Addr.add; split <;> simp_all
  rwa [ha] at this

theorem flat_of {w : World} {base n : Nat} {e : TypeId} {v : Value} {y : Nat → Nat} (h : w.ownsRow base e 1 v n (nums y n)) : ∃ B cb, v = .slice B n cb ∧ FlAt w w.heap.size B n y := by
  rcases h.2 with ⟨h1, h2⟩ | ⟨g, cap, cur, h1, h2, h3, h4⟩
  · subst h2; exact ⟨none, 0, h1, fun h => by omega⟩
  · subst h1
    exact ⟨_, _, rfl, fun _ => ⟨g, 0, rfl, (Array.getElem?_eq_some_iff.1 h3).1, fun i hi => by rw [Nat.zero_add]; exact own_cell h (nums_get y hi)⟩⟩
theorem nums_add (f : Nat → Nat) (a : Nat) : ∀ b, nums f a ++ nums (fun i => f (a + i)) b = nums f (a + b)
  | 0 => by simp [nums]
  | b + 1 => by
    have h1 : ∀ (g : Nat → Nat) (k : Nat), nums g (k + 1) = nums g k ++ [.float .f64 (g k)] := fun g k => by unfold nums; rw [List.range_succ, List.map_append]; rfl
    rw [show a + (b + 1) = a + b + 1 by omega, h1, h1, ← List.append_assoc, nums_add f a b]
theorem nums_next (f : Nat → Nat) (j : Nat) : nums f j ++ [.float .f64 (f j)] = nums f (j + 1) := by unfold nums; rw [List.range_succ, List.map_append]; rfl
end Go.Proofs.Ytjakjnmfndfehaa
