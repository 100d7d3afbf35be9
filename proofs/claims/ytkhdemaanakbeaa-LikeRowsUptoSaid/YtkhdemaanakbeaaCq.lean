/- Four numbers opened; a row of one's own as a name. No condition. -/
import Derived.Test.YtkhdemaanakbeaaCi
import Derived.Test.YtkhdemaanakbeaaBl
namespace Go.Proofs.Ytkhdemaanakbeaa
open Go.RowKit Go.Pst Go.ChangeShapes Go.WideShapes Go.ChangeAt Go.Joins Go.Deep
set_option maxRecDepth 100000
set_option linter.unusedSimpArgs false
set_option linter.unusedVariables false

section
variable {H : Type} {enc : TypeId × Value → H} {P : Program} {w : World} {spare : Nat → Bool} {held : Bool}
theorem open_sharp {r : Reach} {b0 : Nat} {t : TypeId} {g0 g1 g2 g3 : Field} {v : Value} {d : DataW H} {pl : List MemPlace} (ht : P.underlying t = some (.struct #[g0, g1, g2, g3])) (hone' : oneCellFields P #[g0, g1, g2, g3] = true) (hC' : P.cellsOf t = 4)
    (u0 : P.underlying g0.type = some (.float .f64)) (u1 : P.underlying g1.type = some (.float .f64)) (u2 : P.underlying g2.type = some (.int .i64)) (u3 : P.underlying g3.type = some (.int .i64))
    (hv : Value.okWide P w r b0 t v) (h : DataW.Trod enc P w 0 spare held t v d pl) :
    ∃ x y s u, v = .agg #[.float .f64 x, .float .f64 y, .int .i64 s, .int .i64 u] ∧ x < 2 ^ 64 ∧ y < 2 ^ 64 ∧ (-2 ^ 63 ≤ s ∧ s < 2 ^ 63) ∧ (-2 ^ 63 ≤ u ∧ u < 2 ^ 63) := by
  obtain ⟨cs, rfl, hsz⟩ := okWide_struct ht hv
  obtain ⟨l⟩ := cs
  match l, hsz.trans hC' with
  | [c0, c1, c2, c3], _ =>
    obtain ⟨fuel, hf⟩ := h
    obtain ⟨xs, n, _, hx, _, hlen, hq⟩ := DataW.trod_struct ht hf
    obtain ⟨o0, k0⟩ := hone_of hone' 0 g0 rfl
    obtain ⟨o1, k1⟩ := hone_of hone' 1 g1 rfl
    obtain ⟨o2, k2⟩ := hone_of hone' 2 g2 rfl
    obtain ⟨o3, k3⟩ := hone_of hone' 3 g3 rfl
    match xs, hlen with
    | [y0, y1, y2, y3], _ =>
      obtain ⟨x, e0, l0⟩ := float_of u0 (show DataW.trod enc P w 0 spare held n g0.type [c0] = some y0 by simpa [Value.cells, o0, k0] using hq 0 g0 rfl)
      obtain ⟨y, e1, l1⟩ := float_of u1 (show DataW.trod enc P w 0 spare held n g1.type [c1] = some y1 by simpa [Value.cells, o1, k1] using hq 1 g1 rfl)
      obtain ⟨s, e2, _, l2⟩ := DataW.trod_int u2 (show DataW.trod enc P w 0 spare held n g2.type [c2] = some y2 by simpa [Value.cells, o2, k2] using hq 2 g2 rfl)
      obtain ⟨u, e3, _, l3⟩ := DataW.trod_int u3 (show DataW.trod enc P w 0 spare held n g3.type [c3] = some y3 by simpa [Value.cells, o3, k3] using hq 3 g3 rfl)
      simp only [List.cons.injEq, and_true] at e0 e1 e2 e3
      subst e0 e1 e2 e3
      exact ⟨x, y, s, u, rfl, fl64_lt l0, fl64_lt l1, wf_i64 l2, wf_i64 l3⟩
end

/-- A row of one's own as a name. -/
theorem name_of_own {w : World} {base : Nat} {e : TypeId} {v : Value} {l : List Int} (h : w.ownsRow base e 1 v l.length (l.map fun x => .int .i32 x)) :
    ∃ A c, v = .slice A l.length c ∧ NameAt w w.heap.size A l.length (fun k => l.getD k 0) := by
  rcases h.2 with ⟨h1, h2⟩ | ⟨g, cap, cur, h1, h2, h3, h4, h5, h6, h7⟩
  · exact ⟨none, 0, by rw [h1, h2], fun hn => by omega⟩
  · refine ⟨some ⟨g, 0, none⟩, cap, h1, fun hn => ⟨g, 0, rfl, heap_lt h3, fun i hi => ?_⟩⟩
    have hu : (l.map fun x => Value.int .i32 x)[i]? = some (.int .i32 (l.getD i 0)) := by
      rw [List.getElem?_map, List.getElem?_eq_getElem hi, Option.map_some, List.getD_eq_getElem?_getD, List.getElem?_eq_getElem hi]; rfl
    subst h1
    rw [Nat.zero_add]
    exact own_cell h hu

end Go.Proofs.Ytkhdemaanakbeaa
