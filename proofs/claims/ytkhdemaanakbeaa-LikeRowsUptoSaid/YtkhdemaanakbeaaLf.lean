/- The table of two names while it is made: words for the memory, and plain facts. No condition. -/
import Derived.Test.YtkhdemaanakbeaaLe
import Derived.Deep.OwnRows
namespace Go.Proofs.Ytkhdemaanakbeaa
open Go.RowKit Go.Pst
set_option maxRecDepth 20000
set_option linter.unusedSimpArgs false
set_option linter.unusedVariables false

/-- The table while it is made: i rows, each of m numbers. -/
structure Grid (w : World) (H B n m i : Nat) (R : Nat → Nat) (G : Nat → Nat → Nat) : Prop where
  dlt : B < w.heap.size
  hB : H < B
  dfr : ∀ r, w.frozen? ⟨B, r, none⟩ = false
  done : ∀ r, r < i → w.cell? ⟨B, r, none⟩ = some (.slice (some ⟨R r, 0, none⟩) m m)
  todo : ∀ r, i ≤ r → r < n → w.cell? ⟨B, r, none⟩ = some (.slice none 0 0)
  rlt : ∀ r, r < i → B < R r ∧ R r < w.heap.size
  inj : ∀ r s, r < i → s < i → r ≠ s → R r ≠ R s
  rfr : ∀ r j, r < i → w.frozen? ⟨R r, j, none⟩ = false
  cell : ∀ r j, r < i → j < m → ∃ x, w.cell? ⟨R r, j, none⟩ = some (.float .f64 x) ∧ cn x = G r j

section
variable {w w' : World} {H B n m i : Nat} {R : Nat → Nat} {G G' : Nat → Nat → Nat}

theorem Grid.below (g : Grid w H B n m i R G) (hb : Below w.heap.size w w') : Grid w' H B n m i R G where
  dlt := Nat.lt_of_lt_of_le g.dlt hb.size
  hB := g.hB
  dfr r := by rw [hb.frozen (show B < w.heap.size from g.dlt)]; exact g.dfr r
  done r hr := by rw [hb.cell (show B < w.heap.size from g.dlt)]; exact g.done r hr
  todo r h1 h2 := by rw [hb.cell (show B < w.heap.size from g.dlt)]; exact g.todo r h1 h2
  rlt r hr := ⟨(g.rlt r hr).1, Nat.lt_of_lt_of_le (g.rlt r hr).2 hb.size⟩
  inj := g.inj
  rfr r j hr := by rw [hb.frozen (show R r < w.heap.size from (g.rlt r hr).2)]; exact g.rfr r j hr
  cell r j hr hj := by rw [hb.cell (show R r < w.heap.size from (g.rlt r hr).2)]; exact g.cell r j hr hj

theorem Grid.congr (g : Grid w H B n m i R G) (h : ∀ r j, r < i → j < m → G r j = G' r j) : Grid w H B n m i R G' :=
  { g with cell := fun r j hr hj => by rw [← h r j hr hj]; exact g.cell r j hr hj }

theorem addr_ne {b o b' o' : Nat} (h : b ≠ b' ∨ o ≠ o') : ({ block := b, off := o, spot := none } : Addr) ≠ ⟨b', o', none⟩ := fun e => by
  injection e with e1 e2
  rcases h with h | h
  · exact h e1
  · exact h e2

/-- A number stored. -/
theorem Grid.set (g : Grid w H B n m i R G) {r0 j0 x : Nat} (hr0 : r0 < i) (hj0 : j0 < m) (hG : ∀ r j, r < i → j < m → (r = r0 ∧ j = j0 → G' r j = cn x) ∧ (¬ (r = r0 ∧ j = j0) → G' r j = G r j)) :
    Grid (w.setCell ⟨R r0, j0, none⟩ (.float .f64 x)) H B n m i R G' where
  dlt := by rw [Reg.size_setCell]; exact g.dlt
  hB := g.hB
  dfr r := by simp only [World.frozen?_setCell]; exact g.dfr r
  done r hr := by rw [World.cell?_setCell_other _ _ _ _ (addr_ne (.inl (by have := (g.rlt r0 hr0).1; omega)))]; exact g.done r hr
  todo r h1 h2 := by rw [World.cell?_setCell_other _ _ _ _ (addr_ne (.inl (by have := (g.rlt r0 hr0).1; omega)))]; exact g.todo r h1 h2
  rlt r hr := by rw [Reg.size_setCell]; exact g.rlt r hr
  inj := g.inj
  rfr r j hr := by simp only [World.frozen?_setCell]; exact g.rfr r j hr
  cell r j hr hj := by
    by_cases h : r = r0 ∧ j = j0
    · obtain ⟨h1, h2⟩ := h
      rw [h1, h2]
      obtain ⟨x0, hc, _⟩ := g.cell r0 j0 hr0 hj0
      exact ⟨x, World.cell?_setCell_same _ _ _ hc, ((hG r0 j0 hr0 hj0).1 ⟨rfl, rfl⟩).symm⟩
    · rw [World.cell?_setCell_other _ _ _ _ (addr_ne (by
        by_cases hrr : r = r0
        · right; intro e; exact h ⟨hrr, e.symm⟩
        · left; exact g.inj r0 r hr0 hr (Ne.symm hrr)))]
      rw [(hG r j hr hj).2 h]
      exact g.cell r j hr hj

theorem made_cell (z : Value) (k j : Nat) (h : j < k) : (madeCells #[z] k)[j]? = some z := by
  rw [← Array.getElem?_toList, toList_madeCells_one, List.getElem?_replicate, if_pos h]

/-- A new row, its place told. -/
theorem Grid.row (g : Grid w H B n m i R G) (hi : i < n) (t : TypeId) :
    Grid ((w.alloc (.cells (madeCells #[.float .f64 0] m) t)).setCell ⟨B, i, none⟩ (.slice (some ⟨w.heap.size, 0, none⟩) m m)) H B n m (i + 1) (fun r => if r = i then w.heap.size else R r)
      (fun r j => if r = i then 0 else G r j) where
  dlt := by rw [Reg.size_setCell]; have := g.dlt; simp; omega
  hB := g.hB
  dfr r := by
    simp only [World.frozen?_setCell]
    rw [((Below.refl w.heap.size w).alloc (Nat.le_refl _) _).frozen (p := ⟨B, r, none⟩) g.dlt]; exact g.dfr r
  done r hr := by
    by_cases h : r = i
    · subst h
      rw [if_pos rfl]
      refine World.cell?_setCell_same _ _ _ (u := .slice none 0 0) ?_
      rw [World.cell?_alloc_lt _ _ _ g.dlt]; exact g.todo r (Nat.le_refl _) hi
    · rw [if_neg h, World.cell?_setCell_other _ _ _ _ (addr_ne (.inr (Ne.symm h))), World.cell?_alloc_lt _ _ _ g.dlt]
      exact g.done r (by omega)
  todo r h1 h2 := by
    rw [World.cell?_setCell_other _ _ _ _ (addr_ne (.inr (by omega))), World.cell?_alloc_lt _ _ _ g.dlt]
    exact g.todo r (by omega) h2
  rlt r hr := by
    rw [Reg.size_setCell]
    by_cases h : r = i
    · simp only [h, if_true]; have := g.dlt; simp; omega
    · simp only [h, if_false]; have := g.rlt r (by omega); simp; omega
  inj r s hr hs hne := by
    by_cases h : r = i
    · have h' : s ≠ i := by omega
      simp only [h, h', if_true, if_false]; have := g.rlt s (by omega); omega
    · by_cases h' : s = i
      · simp only [h, h', if_true, if_false]; have := g.rlt r (by omega); omega
      · simp only [h, h', if_false]; exact g.inj r s (by omega) (by omega) hne
  rfr r j hr := by
    simp only [World.frozen?_setCell]
    by_cases h : r = i
    · simp only [h, if_true]; simp
    · simp only [h, if_false]
      rw [((Below.refl w.heap.size w).alloc (Nat.le_refl _) _).frozen (p := ⟨R r, j, none⟩) (g.rlt r (by omega)).2]; exact g.rfr r j (by omega)
  cell r j hr hj := by
    have hd := g.dlt
    by_cases h : r = i
    · simp only [h, if_true]
      refine ⟨0, ?_, by decide⟩
      rw [World.cell?_setCell_other _ _ _ _ (addr_ne (.inl (by omega)))]
      rw [(Reg.Blk.new w _ t).cell j]; exact made_cell _ _ _ hj
    · simp only [h, if_false]
      have hr' := g.rlt r (by omega)
      rw [World.cell?_setCell_other _ _ _ _ (addr_ne (.inl (by omega))), World.cell?_alloc_lt _ _ _ hr'.2]
      exact g.cell r j (by omega) hj

theorem Grid.start (W : World) (H n m : Nat) (t : TypeId) (R : Nat → Nat) (G : Nat → Nat → Nat) (hH : H < W.heap.size) :
    Grid (W.alloc (.cells (madeCells #[.slice none 0 0] n) t)) H W.heap.size n m 0 R G where
  dlt := by simp
  hB := hH
  dfr r := by simp
  done r hr := by omega
  todo r h1 h2 := by rw [(Reg.Blk.new W _ t).cell r]; exact made_cell _ _ _ h2
  rlt r hr := by omega
  inj r s hr := by omega
  rfr r j hr := by omega
  cell r j hr := by omega
end

/-- The numbers so far: all rows ahead of i, and of it those ahead of j. -/
def partG (T : Nat → Nat → Nat) (i j r k : Nat) : Nat := if r < i ∨ k < j then T r k else 0

theorem cn_addU (w : World) (x X c : Nat) (hx : cn x = X) : cn (arU .add w x c) = cn (addN X c) := by
  rw [cn_arU, ← arV_add, cn_arV]; exact arV_cn .add (by rw [← hx, cn_cn]) rfl
theorem cn_addU2 (w : World) (x X y Y : Nat) (hx : cn x = X) (hy : cn y = cn Y) : cn (arU .add w x y) = cn (addN X Y) := by
  rw [cn_arU, ← arV_add, cn_arV]; exact arV_cn .add (by rw [← hx, cn_cn]) hy

theorem cn_lt {x : Nat} (h : x < 2 ^ 64) : cn x < 2 ^ 64 := by
  unfold cn
  split
  · decide
  · exact h

theorem minup (V1 V2 y1 y2 : Nat) (w : World) (h1 : cn y1 = cn V1) (h2 : cn y2 = cn V2) (l1 : V1 < 2 ^ 64) (l2 : V2 < 2 ^ 64) :
    Calls Try.prog 60 #[.float .f64 y1, .float .f64 y2] w fun e w'' => ∃ u, e = .returned u ∧ (u = .float .f64 (minF V1 V2) ∨ (true = true ∧ Reg.Veq u (.float .f64 (minF V1 V2)))) ∧ Below w.heap.size w w'' :=
  (minc_any _ _ y1 y2 w h1 h2 (cn_lt l1) (cn_lt l2)).mono fun en w'' ⟨u, e1, e2, e3⟩ => ⟨_, e1, .inr ⟨rfl, veq_of_cn (by rw [e2, cn_minF])⟩, by subst e3; exact Below.refl _ _⟩

end Go.Proofs.Ytkhdemaanakbeaa
