/- A table of whole numbers that is changed in place: words for the memory. No condition. -/
import Derived.Test.YtkhdemaanakbeaaLf
import Derived.Test.YtkhdemaanakbeaaLo
namespace Go.Proofs.Ytkhdemaanakbeaa
open Go.RowKit Go.Pst
set_option maxRecDepth 20000
set_option linter.unusedSimpArgs false
set_option linter.unusedVariables false

/-- A table of n rows, each of m whole numbers; the rows from lo on are there. -/
structure IG (w : World) (H B n m lo : Nat) (R C : Nat → Nat) (G : Nat → Nat → Int) : Prop where
  dlt : B < w.heap.size
  hB : H ≤ B
  dfr : ∀ r, w.frozen? ⟨B, r, none⟩ = false
  done : ∀ r, lo ≤ r → r < n → w.cell? ⟨B, r, none⟩ = some (.slice (some ⟨R r, 0, none⟩) m (C r))
  todo : ∀ r, r < lo → w.cell? ⟨B, r, none⟩ = some (.slice none 0 0)
  rlt : ∀ r, lo ≤ r → r < n → H ≤ R r ∧ R r ≠ B ∧ R r < w.heap.size
  inj : ∀ r s, lo ≤ r → r < n → lo ≤ s → s < n → r ≠ s → R r ≠ R s
  rfr : ∀ r j, lo ≤ r → r < n → w.frozen? ⟨R r, j, none⟩ = false
  cell : ∀ r j, lo ≤ r → r < n → j < m → w.cell? ⟨R r, j, none⟩ = some (.int .i64 (G r j))

section
variable {w w' : World} {H B n m lo : Nat} {R C : Nat → Nat} {G G' : Nat → Nat → Int}

theorem IG.below (g : IG w H B n m lo R C G) (hb : Below w.heap.size w w') : IG w' H B n m lo R C G where
  dlt := Nat.lt_of_lt_of_le g.dlt hb.size
  hB := g.hB
  dfr r := by rw [hb.frozen (show B < w.heap.size from g.dlt)]; exact g.dfr r
  done r h1 h2 := by rw [hb.cell (show B < w.heap.size from g.dlt)]; exact g.done r h1 h2
  todo r h1 := by rw [hb.cell (show B < w.heap.size from g.dlt)]; exact g.todo r h1
  rlt r h1 h2 := ⟨(g.rlt r h1 h2).1, (g.rlt r h1 h2).2.1, Nat.lt_of_lt_of_le (g.rlt r h1 h2).2.2 hb.size⟩
  inj := g.inj
  rfr r j h1 h2 := by rw [hb.frozen (show R r < w.heap.size from (g.rlt r h1 h2).2.2)]; exact g.rfr r j h1 h2
  cell r j h1 h2 hj := by rw [hb.cell (show R r < w.heap.size from (g.rlt r h1 h2).2.2)]; exact g.cell r j h1 h2 hj

theorem IG.congr (g : IG w H B n m lo R C G) (h : ∀ r j, lo ≤ r → r < n → j < m → G r j = G' r j) : IG w H B n m lo R C G' :=
  { g with cell := fun r j h1 h2 hj => by rw [← h r j h1 h2 hj]; exact g.cell r j h1 h2 hj }

theorem IG.set (g : IG w H B n m lo R C G) {r0 j0 : Nat} {x : Int} (hr0 : lo ≤ r0) (hr1 : r0 < n) (hj0 : j0 < m) (hG : ∀ r j, lo ≤ r → r < n → j < m → G' r j = if r = r0 ∧ j = j0 then x else G r j) :
    IG (w.setCell ⟨R r0, j0, none⟩ (.int .i64 x)) H B n m lo R C G' where
  dlt := by rw [Reg.size_setCell]; exact g.dlt
  hB := g.hB
  dfr r := by simp only [World.frozen?_setCell]; exact g.dfr r
  done r h1 h2 := by rw [World.cell?_setCell_other _ _ _ _ (addr_ne (.inl (g.rlt r0 hr0 hr1).2.1))]; exact g.done r h1 h2
  todo r h1 := by rw [World.cell?_setCell_other _ _ _ _ (addr_ne (.inl (g.rlt r0 hr0 hr1).2.1))]; exact g.todo r h1
  rlt r h1 h2 := by rw [Reg.size_setCell]; exact g.rlt r h1 h2
  inj := g.inj
  rfr r j h1 h2 := by simp only [World.frozen?_setCell]; exact g.rfr r j h1 h2
  cell r j h1 h2 hj := by
    rw [hG r j h1 h2 hj]
    by_cases h : r = r0 ∧ j = j0
    · rw [if_pos h]
      obtain ⟨e1, e2⟩ := h
      rw [e1, e2]
      exact World.cell?_setCell_same _ _ _ (g.cell r0 j0 hr0 hr1 hj0)
    · rw [if_neg h, World.cell?_setCell_other _ _ _ _ (addr_ne (by
        by_cases hrr : r = r0
        · right; intro e; exact h ⟨hrr, e.symm⟩
        · left; exact g.inj r0 r hr0 hr1 h1 h2 (Ne.symm hrr)))]
      exact g.cell r j h1 h2 hj

/-- A new row, its place told. -/
theorem IG.row (g : IG w H B n m (lo + 1) R C G) (hi : lo < n) (t : TypeId) :
    IG ((w.alloc (.cells (madeCells #[.int .i64 0] m) t)).setCell ⟨B, lo, none⟩ (.slice (some ⟨w.heap.size, 0, none⟩) m m)) H B n m lo (fun r => if r = lo then w.heap.size else R r) (fun r => if r = lo then m else C r)
      (fun r j => if r = lo then 0 else G r j) where
  dlt := by rw [Reg.size_setCell]; have := g.dlt; simp; omega
  hB := g.hB
  dfr r := by
    simp only [World.frozen?_setCell]
    rw [((Below.refl w.heap.size w).alloc (Nat.le_refl _) _).frozen (p := ⟨B, r, none⟩) g.dlt]; exact g.dfr r
  done r h1 h2 := by
    by_cases h : r = lo
    · subst h
      rw [if_pos rfl, if_pos rfl]
      refine World.cell?_setCell_same _ _ _ (u := .slice none 0 0) ?_
      rw [World.cell?_alloc_lt _ _ _ g.dlt]; exact g.todo r (by omega)
    · rw [if_neg h, if_neg h, World.cell?_setCell_other _ _ _ _ (addr_ne (.inr (Ne.symm h))), World.cell?_alloc_lt _ _ _ g.dlt]
      exact g.done r (by omega) h2
  todo r h1 := by
    rw [World.cell?_setCell_other _ _ _ _ (addr_ne (.inr (by omega))), World.cell?_alloc_lt _ _ _ g.dlt]
    exact g.todo r (by omega)
  rlt r h1 h2 := by
    rw [Reg.size_setCell]
    have hd := g.dlt; have hh := g.hB
    by_cases h : r = lo
    · simp only [h, if_true]; simp; omega
    · simp only [h, if_false]; have := g.rlt r (by omega) h2; simp; omega
  inj r s h1 h2 h3 h4 hne := by
    by_cases h : r = lo
    · have h' : s ≠ lo := by omega
      simp only [h, h', if_true, if_false]; have := g.rlt s (by omega) h4; omega
    · by_cases h' : s = lo
      · simp only [h, h', if_true, if_false]; have := g.rlt r (by omega) h2; omega
      · simp only [h, h', if_false]; exact g.inj r s (by omega) h2 (by omega) h4 hne
  rfr r j h1 h2 := by
    simp only [World.frozen?_setCell]
    by_cases h : r = lo
    · simp only [h, if_true]; simp
    · simp only [h, if_false]
      rw [((Below.refl w.heap.size w).alloc (Nat.le_refl _) _).frozen (p := ⟨R r, j, none⟩) (g.rlt r (by omega) h2).2.2]; exact g.rfr r j (by omega) h2
  cell r j h1 h2 hj := by
    have hd := g.dlt
    by_cases h : r = lo
    · simp only [h, if_true]
      rw [World.cell?_setCell_other _ _ _ _ (addr_ne (.inl (by omega)))]
      rw [(Reg.Blk.new w _ t).cell j]; exact made_cell _ _ _ hj
    · simp only [h, if_false]
      have hr' := g.rlt r (by omega) h2
      rw [World.cell?_setCell_other _ _ _ _ (addr_ne (.inl (Ne.symm hr'.2.1))), World.cell?_alloc_lt _ _ _ hr'.2.2]
      exact g.cell r j (by omega) h2 hj

theorem IG.start (W : World) (H n m : Nat) (t : TypeId) (R C : Nat → Nat) (G : Nat → Nat → Int) (hH : H ≤ W.heap.size) :
    IG (W.alloc (.cells (madeCells #[.slice none 0 0] n) t)) H W.heap.size n m n R C G where
  dlt := by simp
  hB := hH
  dfr r := by simp
  done r h1 h2 := by omega
  todo r h1 := by rw [(Reg.Blk.new W _ t).cell r]; exact made_cell _ _ _ h1
  rlt r h1 h2 := by omega
  inj r s h1 h2 := by omega
  rfr r j h1 h2 := by omega
  cell r j h1 h2 := by omega
end
end Go.Proofs.Ytkhdemaanakbeaa
