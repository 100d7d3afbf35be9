/- What the bound on what is read gives; names, rows of costs and lists of numbers opened. No condition. -/
import Derived.Test.YtkhdemaanakbeaaRows
import Derived.Test.YtkhdemaanakbeaaLaw
import Derived.Test.YtkhdemaanakbeaaLe
import Derived.Deep.Slices
import Derived.Deep.Fields
import Derived.ChangeSame
import Derived.Laws.Cover2
import Derived.JoinedCond
namespace Go.Proofs.Ytkhdemaanakbeaa
open Go.RowKit Go.Pst Go.ChangeShapes Go.WideShapes Go.ChangeAt Go.Joins Go.Deep
set_option linter.unusedSimpArgs false
set_option linter.unusedVariables false

theorem bulk_one {H : Type} (d : DataW H) : 1 ≤ Rows.uptoBulk d := by
  cases d with
  | lit l => cases l <;> simp [Rows.uptoBulk]
  | nil => simp [Rows.uptoBulk]
  | ptr d => simp [Rows.uptoBulk]
  | slice elems spare => simp [Rows.uptoBulk]
  | agg parts => simp [Rows.uptoBulk]
  | iface t d => simp [Rows.uptoBulk]
  | map entries => simp [Rows.uptoBulk]
  | held h => simp [Rows.uptoBulk]

theorem bulk_length {H : Type} (l : List (DataW H)) : l.length ≤ Rows.uptoBulkAll l := by
  induction l with
  | nil => simp [Rows.uptoBulkAll]
  | cons x r ih => have := bulk_one x; simp only [Rows.uptoBulkAll, List.length_cons]; omega

theorem bulk_slice {H : Type} (elems spare : List (DataW H)) : elems.length + 1 ≤ Rows.uptoBulk (.slice elems spare) := by
  have h1 := bulk_length elems
  have h2 := bulk_length spare
  simp only [Rows.uptoBulk]
  omega

theorem addr_of_cell {w : World} {a : Addr} {n : Nat} {V : Nat → Value} (hn : 0 < n) (h : ∀ i, i < n → w.cell? (a.add i) = some (V i)) :
    ∃ b off, a = ⟨b, off, none⟩ ∧ b < w.heap.size ∧ ∀ i, i < n → w.cell? ⟨b, off + i, none⟩ = some (V i) := by
  obtain ⟨b, off, spot⟩ := a
  have h0 := h 0 hn
  have hs : spot = none := by simpa [Addr.add] using World.cell?_spot h0
  subst hs
  refine ⟨b, off, rfl, ?_, fun i hi => ?_⟩
  · have := World.block_lt_of_cell? w _ h0; simpa [Addr.add] using this
  · have := h i hi
    unfold Addr.add at this
    by_cases hi0 : i = 0
    · subst hi0; simpa using this
    · rw [if_neg hi0] at this; exact this

section
variable {H : Type} {enc : TypeId × Value → H} {P : Program} {w : World} {spare : Nat → Bool} {held : Bool}

theorem name_of {t e : TypeId} {v : Value} {fuel : Nat} {x : DataW H × List MemPlace} (ht : P.underlying t = some (.slice e)) (he : P.underlying e = some (.int .i32)) (hc : P.cellsOf e = 1)
    (h : DataW.trod enc P w 0 spare held fuel t [v] = some x) : ∃ A n c f, v = .slice A n c ∧ n + 1 ≤ Rows.uptoBulk x.1 ∧ NameAt w w.heap.size A n f := by
  rcases open_slice1 ht hc h with ⟨h1, h2⟩ | ⟨a, len, cap, m, k, V, D, Pl, h1, _, hl, hm, hmm, h2, hall⟩
  · simp only [List.cons.injEq, and_true] at h1
    subst h1 h2
    exact ⟨none, 0, 0, fun _ => 0, rfl, by simp [Rows.uptoBulk], fun h => by omega⟩
  · simp only [List.cons.injEq, and_true] at h1
    subst h1 h2
    have hle : len ≤ m := by rw [hmm]; split <;> omega
    have hb := bulk_slice ((List.range len).map D) ((List.range (m - len)).map fun j => D (len + j))
    simp only [List.length_map, List.length_range] at hb
    have hz : ∀ i, ∃ z : Int, i < m → V i = .int .i32 z := fun i => by
      by_cases hi : i < m
      · obtain ⟨n, e1, _, _⟩ := DataW.trod_int he (hall i hi).2
        simp only [List.cons.injEq, and_true] at e1
        exact ⟨n, fun _ => e1⟩
      · exact ⟨0, fun h => absurd h hi⟩
    obtain ⟨f, hf⟩ := Classical.axiomOfChoice hz
    refine ⟨some a, len, cap, f, rfl, hb, fun hn => ?_⟩
    obtain ⟨b, off, rfl, hlt, hcell⟩ := addr_of_cell (V := V) hn (fun i hi => (hall i (by omega)).1)
    exact ⟨b, off, rfl, hlt, fun i hi => by rw [hcell i hi, hf i (by omega)]⟩

theorem open_name {r : Reach} {b0 : Nat} {t e : TypeId} {v : Value} {d : DataW H} {p : List MemPlace} (ht : P.underlying t = some (.slice e)) (he : P.underlying e = some (.int .i32)) (hc : P.cellsOf e = 1)
    (hv : Value.okWide P w r b0 t v) (h : DataW.Trod enc P w 0 spare held t v d p) : ∃ A n c f, v = .slice A n c ∧ n + 1 ≤ Rows.uptoBulk d ∧ NameAt w w.heap.size A n f := by
  obtain ⟨a, len, cap, rfl⟩ := okWide_slice ht hv
  obtain ⟨fuel, hf⟩ := h
  obtain ⟨A, n, c, f, h1, h2, h3⟩ := name_of ht he hc (v := .slice a len cap) hf
  exact ⟨A, n, c, f, h1, h2, h3⟩
end

theorem upto_bound {H : Type} {l : List (DataW H)} (hk : Rows.uptoSmall H l = true) : Rows.uptoBulkAll l ≤ 1048576 := of_decide_eq_true hk

end Go.Proofs.Ytkhdemaanakbeaa
