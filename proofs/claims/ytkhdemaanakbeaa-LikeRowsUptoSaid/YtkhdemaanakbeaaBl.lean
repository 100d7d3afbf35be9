/- Costs opened: four numbers and rows. No condition. -/
import Derived.Test.YtkhdemaanakbeaaBk
namespace Go.Proofs.Ytkhdemaanakbeaa
open Go.RowKit Go.Pst Go.ChangeShapes Go.WideShapes Go.ChangeAt Go.Joins Go.Deep
set_option linter.unusedSimpArgs false
set_option linter.unusedVariables false

section
variable {H : Type} {enc : TypeId × Value → H} {P : Program} {w : World} {spare : Nat → Bool} {held : Bool}

theorem float_of {t : TypeId} {k : FloatKind} {fuel : Nat} {cs : List Value} {x : DataW H × List MemPlace} {base : Nat} (ht : P.underlying t = some (.float k)) (h : DataW.trod enc P w base spare held fuel t cs = some x) :
    ∃ b, cs = [.float k b] ∧ (Lit.float k b).wf = true := by
  cases fuel with
  | zero => simp [DataW.trod] at h
  | succ n =>
    unfold DataW.trod at h
    rw [ht] at h
    split at h <;> simp_all

theorem fl64_lt {b : Nat} (h : (Lit.float .f64 b).wf = true) : b < 2 ^ 64 := by
  simpa [Lit.wf] using h

theorem bulk_part {d : DataW H} {l : List (DataW H)} (h : d ∈ l) : Rows.uptoBulk d ≤ Rows.uptoBulkAll l := by
  induction l with
  | nil => cases h
  | cons x r ih =>
    simp only [Rows.uptoBulkAll]
    rcases List.mem_cons.1 h with rfl | h
    · omega
    · have := ih h; omega

/-- Rows of three cells each. -/
theorem pairs_of {t e : TypeId} {f0 f1 f2 : Field} {v : Value} {fuel : Nat} {x : DataW H × List MemPlace} (ht : P.underlying t = some (.slice e)) (he : P.underlying e = some (.struct #[f0, f1, f2])) (hone : oneCellFields P #[f0, f1, f2] = true) (hC : P.cellsOf e = 3)
    (h0 : P.underlying f0.type = some (.int .i32)) (h1 : P.underlying f1.type = some (.int .i32)) (h2 : P.underlying f2.type = some (.float .f32))
    (h : DataW.trod enc P w 0 spare held fuel t [v] = some x) : ∃ A n c p, v = .slice A n c ∧ n + 1 ≤ Rows.uptoBulk x.1 ∧ PairsAt w w.heap.size A n p := by
  rcases open_slice ht h with ⟨e1, e2⟩ | ⟨a, len, cap, m, k, D, Pl, e1, _, hl, hm, hmm, e2, hall⟩
  · simp only [List.cons.injEq, and_true] at e1
    subst e1 e2
    exact ⟨none, 0, 0, fun _ => (0, 0, 0), rfl, by simp [Rows.uptoBulk], fun h => by omega⟩
  · simp only [List.cons.injEq, and_true] at e1
    subst e1 e2
    have hle : len ≤ m := by rw [hmm]; split <;> omega
    have hb := bulk_slice ((List.range len).map D) ((List.range (m - len)).map fun j => D (len + j))
    simp only [List.length_map, List.length_range] at hb
    have hz : ∀ i, ∃ z : Int × Int × Nat, i < m → w.cell? (a.add (i * 3)) = some (.int .i32 z.1) ∧ w.cell? (a.add (i * 3 + 1)) = some (.int .i32 z.2.1) ∧ w.cell? (a.add (i * 3 + 2)) = some (.float .f32 z.2.2) := fun i => by
      by_cases hi : i < m
      · obtain ⟨cs', hc, ht'⟩ := hall i hi
        rw [hC] at hc
        obtain ⟨ys, n', hn', hy, hlen, hyl, hf⟩ := DataW.trod_struct he ht'
        obtain ⟨_, hcl, hat⟩ := World.cells?_some hc
        match cs', hcl with
        | [z0, z1, z2], _ =>
          obtain ⟨o0, k0⟩ := hone_of hone 0 f0 rfl
          obtain ⟨o1, k1⟩ := hone_of hone 1 f1 rfl
          obtain ⟨o2, k2⟩ := hone_of hone 2 f2 rfl
          have g0 := hf 0 f0 rfl
          have g1 := hf 1 f1 rfl
          have g2 := hf 2 f2 rfl
          rw [o0, k0] at g0
          rw [o1, k1] at g1
          rw [o2, k2] at g2
          match ys, hyl with
          | [y0, y1, y2], _ =>
            obtain ⟨n0, e0, _, _⟩ := DataW.trod_int h0 (show DataW.trod enc P w 0 spare held n' f0.type [z0] = some y0 from g0)
            obtain ⟨n1, e1, _, _⟩ := DataW.trod_int h1 (show DataW.trod enc P w 0 spare held n' f1.type [z1] = some y1 from g1)
            obtain ⟨n2, e2, _⟩ := float_of h2 (show DataW.trod enc P w 0 spare held n' f2.type [z2] = some y2 from g2)
            simp only [List.cons.injEq, and_true] at e0 e1 e2
            subst e0 e1 e2
            have c0 := hat 0 (by omega)
            have c1 := hat 1 (by omega)
            have c2 := hat 2 (by omega)
            rw [Go.Deep.add_add] at c0 c1 c2
            exact ⟨(n0, n1, n2), fun _ => ⟨by simpa using c0, by simpa using c1, by simpa using c2⟩⟩
      · exact ⟨(0, 0, 0), fun h => absurd h hi⟩
    obtain ⟨p, hp⟩ := Classical.axiomOfChoice hz
    refine ⟨some a, len, cap, p, rfl, hb, fun hn => ?_⟩
    obtain ⟨b, off, spot⟩ := a
    have h00 := (hp 0 (by omega)).1
    have hs : spot = none := by simpa [Addr.add] using World.cell?_spot h00
    subst hs
    have hadd : ∀ j, ((⟨b, off, none⟩ : Addr).add j) = ⟨b, off + j, none⟩ := fun j => by unfold Addr.add; split <;> simp_all
    refine ⟨b, off, rfl, ?_, fun i hi => ?_⟩
    · have := World.block_lt_of_cell? w _ h00; rw [hadd] at this; exact this
    · obtain ⟨q0, q1, q2⟩ := hp i (by omega)
      rw [hadd] at q0 q1 q2
      exact ⟨q0, by rw [Nat.add_assoc]; exact q1, by rw [Nat.add_assoc]; exact q2⟩

theorem open_costs {r : Reach} {b0 : Nat} {t e : TypeId} {g0 g1 g2 g3 g4 f0 f1 f2 : Field} {v : Value} {d : DataW H} {pl : List MemPlace} (ht : P.underlying t = some (.struct #[g0, g1, g2, g3, g4])) (hone' : oneCellFields P #[g0, g1, g2, g3, g4] = true) (hC' : P.cellsOf t = 5)
    (u0 : P.underlying g0.type = some (.float .f64)) (u1 : P.underlying g1.type = some (.float .f64)) (u2 : P.underlying g2.type = some (.float .f64)) (u3 : P.underlying g3.type = some (.float .f64)) (u4 : P.underlying g4.type = some (.slice e))
    (he : P.underlying e = some (.struct #[f0, f1, f2])) (hone : oneCellFields P #[f0, f1, f2] = true) (hC : P.cellsOf e = 3)
    (h0 : P.underlying f0.type = some (.int .i32)) (h1 : P.underlying f1.type = some (.int .i32)) (h2 : P.underlying f2.type = some (.float .f32))
    (hv : Value.okWide P w r b0 t v) (h : DataW.Trod enc P w 0 spare held t v d pl) :
    ∃ cI cO cX cT A n c p, v = .agg #[.float .f64 cI, .float .f64 cO, .float .f64 cX, .float .f64 cT, .slice A n c] ∧ n + 1 ≤ Rows.uptoBulk d ∧ PairsAt w w.heap.size A n p ∧ cI < 2 ^ 64 ∧ cO < 2 ^ 64 ∧ cX < 2 ^ 64 ∧ cT < 2 ^ 64 := by
  obtain ⟨cs, rfl, hsz⟩ := okWide_struct ht hv
  obtain ⟨l⟩ := cs
  match l, hsz.trans hC' with
  | [c0, c1, c2, c3, c4], _ =>
    obtain ⟨fuel, hf⟩ := h
    obtain ⟨xs, n, _, hx, _, hlen, hg⟩ := DataW.trod_struct ht hf
    obtain ⟨o0, k0⟩ := hone_of hone' 0 g0 rfl
    obtain ⟨o1, k1⟩ := hone_of hone' 1 g1 rfl
    obtain ⟨o2, k2⟩ := hone_of hone' 2 g2 rfl
    obtain ⟨o3, k3⟩ := hone_of hone' 3 g3 rfl
    obtain ⟨o4, k4⟩ := hone_of hone' 4 g4 rfl
    match xs, hlen with
    | [y0, y1, y2, y3, y4], _ =>
      simp only [Prod.mk.injEq] at hx
      obtain ⟨b0, e0, l0⟩ := float_of u0 (show DataW.trod enc P w 0 spare held n g0.type [c0] = some y0 by simpa [Value.cells, o0, k0] using hg 0 g0 rfl)
      obtain ⟨b1, e1, l1⟩ := float_of u1 (show DataW.trod enc P w 0 spare held n g1.type [c1] = some y1 by simpa [Value.cells, o1, k1] using hg 1 g1 rfl)
      obtain ⟨b2, e2, l2⟩ := float_of u2 (show DataW.trod enc P w 0 spare held n g2.type [c2] = some y2 by simpa [Value.cells, o2, k2] using hg 2 g2 rfl)
      obtain ⟨b3, e3, l3⟩ := float_of u3 (show DataW.trod enc P w 0 spare held n g3.type [c3] = some y3 by simpa [Value.cells, o3, k3] using hg 3 g3 rfl)
      obtain ⟨A, np, cp, p, e4, hb, hp⟩ := pairs_of u4 he hone hC h0 h1 h2 (show DataW.trod enc P w 0 spare held n g4.type [c4] = some y4 by simpa [Value.cells, o4, k4] using hg 4 g4 rfl)
      simp only [List.cons.injEq, and_true] at e0 e1 e2 e3
      subst e0 e1 e2 e3 e4
      refine ⟨b0, b1, b2, b3, A, np, cp, p, rfl, ?_, hp, fl64_lt l0, fl64_lt l1, fl64_lt l2, fl64_lt l3⟩
      rw [hx.1]
      have := bulk_part (l := [y0.1, y1.1, y2.1, y3.1, y4.1]) (d := y4.1) (by simp)
      show np + 1 ≤ Rows.uptoBulk (.agg ([y0, y1, y2, y3, y4].map (·.1)))
      simp only [Rows.uptoBulk, List.map_cons, List.map_nil]
      omega
end
end Go.Proofs.Ytkhdemaanakbeaa
