/- A choice opened: names and a number. No condition. -/
import Derived.Test.YtkhdemaanakbeaaCb
import Derived.Test.YtkhdemaanakbeaaBl
namespace Go.Proofs.Ytkhdemaanakbeaa
open Go.RowKit Go.Pst Go.ChangeShapes Go.WideShapes Go.ChangeAt Go.Joins Go.Deep
set_option linter.unusedSimpArgs false
set_option linter.unusedVariables false

section
variable {H : Type} {enc : TypeId × Value → H} {P : Program} {w : World} {spare : Nat → Bool} {held : Bool}

theorem names_of {t e g : TypeId} {v : Value} {fuel : Nat} {x : DataW H × List MemPlace} (ht : P.underlying t = some (.slice e)) (he : P.underlying e = some (.slice g)) (hc : P.cellsOf e = 1) (hg : P.underlying g = some (.int .i32)) (hd : P.cellsOf g = 1)
    (h : DataW.trod enc P w 0 spare held fuel t [v] = some x) : ∃ A n c NA M C f, v = .slice A n c ∧ n + 1 ≤ Rows.uptoBulk x.1 ∧ (∀ i, i < n → M i + 1 ≤ Rows.uptoBulk x.1) ∧ NamesAt w w.heap.size A n NA M C f := by
  rcases open_slice1 ht hc h with ⟨h1, h2⟩ | ⟨a, len, cap, m, k, V, D, Pl, h1, _, hl, hm, hmm, h2, hall⟩
  · simp only [List.cons.injEq, and_true] at h1
    subst h1 h2
    exact ⟨none, 0, 0, fun _ => none, fun _ => 0, fun _ => 0, fun _ _ => 0, rfl, by simp [Rows.uptoBulk], fun i h => by omega, fun h => by omega⟩
  · simp only [List.cons.injEq, and_true] at h1
    subst h1 h2
    have hle : len ≤ m := by rw [hmm]; split <;> omega
    have hb := bulk_slice ((List.range len).map D) ((List.range (m - len)).map fun j => D (len + j))
    simp only [List.length_map, List.length_range] at hb
    have hz : ∀ i, ∃ z : Option Addr × Nat × Nat × (Nat → Int), i < m → V i = .slice z.1 z.2.1 z.2.2.1 ∧ z.2.1 + 1 ≤ Rows.uptoBulk (D i) ∧ NameAt w w.heap.size z.1 z.2.1 z.2.2.2 := fun i => by
      by_cases hi : i < m
      · obtain ⟨A, n, c, f, e1, e2, e3⟩ := name_of he hg hd (hall i hi).2
        exact ⟨(A, n, c, f), fun _ => ⟨e1, e2, e3⟩⟩
      · exact ⟨(none, 0, 0, fun _ => 0), fun h => absurd h hi⟩
    obtain ⟨z, hz⟩ := Classical.axiomOfChoice hz
    refine ⟨some a, len, cap, fun i => (z i).1, fun i => (z i).2.1, fun i => (z i).2.2.1, fun i => (z i).2.2.2, rfl, hb, fun i hi => ?_, fun hn => ?_⟩
    · have h1 := (hz i (by omega)).2.1
      have h2 := bulk_part (l := (List.range len).map D) (d := D i) (List.mem_map.2 ⟨i, List.mem_range.2 hi, rfl⟩)
      show (z i).2.1 + 1 ≤ Rows.uptoBulk (.slice ((List.range len).map D) ((List.range (m - len)).map fun j => D (len + j)))
      simp only [Rows.uptoBulk]
      omega
    · obtain ⟨b, off, rfl, hlt, hcell⟩ := addr_of_cell (V := V) hn (fun i hi => (hall i (by omega)).1)
      exact ⟨b, off, rfl, hlt, fun i hi => by rw [hcell i hi, (hz i (by omega)).1], fun i hi => (hz i (by omega)).2.2⟩

theorem open_choice {r : Reach} {b0 : Nat} {t e g : TypeId} {g0 g1 : Field} {v : Value} {d : DataW H} {pl : List MemPlace} (ht : P.underlying t = some (.struct #[g0, g1])) (hone' : oneCellFields P #[g0, g1] = true) (hC' : P.cellsOf t = 2)
    (u0 : P.underlying g0.type = some (.slice e)) (he : P.underlying e = some (.slice g)) (hc : P.cellsOf e = 1) (hg : P.underlying g = some (.int .i32)) (hd : P.cellsOf g = 1) (u1 : P.underlying g1.type = some (.float .f64))
    (hv : Value.okWide P w r b0 t v) (h : DataW.Trod enc P w 0 spare held t v d pl) :
    ∃ A n c most NA M C f, v = .agg #[.slice A n c, .float .f64 most] ∧ n + 1 ≤ Rows.uptoBulk d ∧ (∀ i, i < n → M i + 1 ≤ Rows.uptoBulk d) ∧ NamesAt w w.heap.size A n NA M C f := by
  obtain ⟨cs, rfl, hsz⟩ := okWide_struct ht hv
  obtain ⟨l⟩ := cs
  match l, hsz.trans hC' with
  | [c0, c1], _ =>
    obtain ⟨fuel, hf⟩ := h
    obtain ⟨xs, n, _, hx, _, hlen, hq⟩ := DataW.trod_struct ht hf
    obtain ⟨o0, k0⟩ := hone_of hone' 0 g0 rfl
    obtain ⟨o1, k1⟩ := hone_of hone' 1 g1 rfl
    match xs, hlen with
    | [y0, y1], _ =>
      simp only [Prod.mk.injEq] at hx
      obtain ⟨A, nn, c, NA, M, C, f, e0, b1, b2, hN⟩ := names_of u0 he hc hg hd (show DataW.trod enc P w 0 spare held n g0.type [c0] = some y0 by simpa [Value.cells, o0, k0] using hq 0 g0 rfl)
      obtain ⟨most, e1, l1⟩ := float_of u1 (show DataW.trod enc P w 0 spare held n g1.type [c1] = some y1 by simpa [Value.cells, o1, k1] using hq 1 g1 rfl)
      simp only [List.cons.injEq, and_true] at e1
      subst e0 e1
      have hle : Rows.uptoBulk y0.1 ≤ Rows.uptoBulk d := by
        rw [hx.1]
        have := bulk_part (l := [y0.1, y1.1]) (d := y0.1) (by simp)
        show Rows.uptoBulk y0.1 ≤ Rows.uptoBulk (.agg ([y0, y1].map (·.1)))
        simp only [Rows.uptoBulk, List.map_cons, List.map_nil]
        omega
      exact ⟨A, nn, c, most, NA, M, C, f, rfl, by omega, fun i hi => by have := b2 i hi; omega, hN⟩
end
end Go.Proofs.Ytkhdemaanakbeaa
