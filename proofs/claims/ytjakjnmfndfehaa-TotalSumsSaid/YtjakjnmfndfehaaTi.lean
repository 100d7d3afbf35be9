/- A sum in memory; Frexp of a size; whether a sign is set. Conditions: finite numbers. -/
import Derived.Test.YtjakjnmfndfehaaTh
import Derived.Deep.WholeRow
namespace Go.Proofs.Ytjakjnmfndfehaa
open Go.RowKit Go.Pst
set_option maxRecDepth 20000
set_option linter.unusedSimpArgs false
set_option linter.unusedVariables false

/-- One block may be written, and new ones made. -/
def Fr (w w' : World) (B : Nat) : Prop := w.grownBy w' (some B)
section
variable {w w' w2 : World} {B Bn o n : Nat}
theorem Fr.refl (w : World) (B : Nat) : Fr w w B := ⟨rfl, rfl, rfl, Nat.le_refl _, fun k _ _ => rfl⟩
theorem Fr.after {m : Nat} (h : Fr w w' B) (hb : Below m w' w2) (hm : w.heap.size ≤ m) : Fr w w2 B :=
  ⟨hb.os.trans h.os, hb.tape.trans h.tape, hb.output.trans h.output, Nat.le_trans h.size hb.size, fun j hj hne => (hb.block j (Nat.lt_of_lt_of_le hj hm)).trans (h.block j hj hne)⟩
theorem Fr.setB (h : Fr w w' B) (k : Nat) (v : Value) : Fr w (w'.setCell ⟨B, k, none⟩ v) B :=
  ⟨h.os, h.tape, h.output, by rw [Reg.size_setCell]; exact h.size, fun j hj hne => by rw [heap_setCell_other w' ⟨B, k, none⟩ j v (fun e => hne (by rw [e]))]; exact h.block j hj hne⟩
theorem Fr.chgB (h : Fr w w' B) (c : Chg w' w2 B o n) : Fr w w2 B :=
  ⟨c.g.os.trans h.os, c.g.tape.trans h.tape, c.g.output.trans h.output, Nat.le_trans h.size c.g.size, fun j hj hne => (c.g.block j (Nat.lt_of_lt_of_le hj h.size) hne).trans (h.block j hj hne)⟩
theorem Fr.chgN (h : Fr w w' B) (c : Chg w' w2 Bn o n) (hn : w.heap.size ≤ Bn) : Fr w w2 B :=
  ⟨c.g.os.trans h.os, c.g.tape.trans h.tape, c.g.output.trans h.output, Nat.le_trans h.size c.g.size, fun j hj hne => (c.g.block j (Nat.lt_of_lt_of_le hj h.size) (fun e => by injection e with e; omega)).trans (h.block j hj hne)⟩
theorem Fr.trans (h : Fr w w' B) (h2 : Fr w' w2 B) : Fr w w2 B :=
  ⟨h2.os.trans h.os, h2.tape.trans h.tape, h2.output.trans h.output, Nat.le_trans h.size h2.size, fun j hj hne => (h2.block j (Nat.lt_of_lt_of_le hj h.size) hne).trans (h.block j hj hne)⟩
/-- The block is a new one of somebody above. -/
theorem Fr.below {w0 : World} {m : Nat} (hb : Below m w0 w) (h : Fr w w' B) (hB : m ≤ B) (hm : m ≤ w.heap.size) : Below m w0 w' :=
  ⟨h.os.trans hb.os, h.tape.trans hb.tape, h.output.trans hb.output, Nat.le_trans hb.size h.size, fun k hk => (h.block k (Nat.lt_of_lt_of_le hk hm) (fun e => by injection e with e; omega)).trans (hb.block k hk)⟩
end

/-- A sum in memory: the words, how many places are behind the point, what was there. -/
structure ExAt (w : World) (B : Nat) (V : Nat → Nat) (d : Int) (p l n s m : Bool) : Prop where
  wide : WideAt w B 0 V
  cd : w.cell? ⟨B, 72, none⟩ = some (.int .i64 d)
  cp : w.cell? ⟨B, 73, none⟩ = some (.bool p)
  cl : w.cell? ⟨B, 74, none⟩ = some (.bool l)
  cn : w.cell? ⟨B, 75, none⟩ = some (.bool n)
  cs : w.cell? ⟨B, 76, none⟩ = some (.bool s)
  cm : w.cell? ⟨B, 77, none⟩ = some (.bool m)
section
variable {w w' : World} {B : Nat} {V U : Nat → Nat} {d : Int} {p l n s m b : Bool}
theorem ExAt.below (h : ExAt w B V d p l n s m) (hb : Below w.heap.size w w') : ExAt w' B V d p l n s m where
  wide := h.wide.below hb
  cd := by rw [hb.cell (show B < w.heap.size from h.wide.lt)]; exact h.cd
  cp := by rw [hb.cell (show B < w.heap.size from h.wide.lt)]; exact h.cp
  cl := by rw [hb.cell (show B < w.heap.size from h.wide.lt)]; exact h.cl
  cn := by rw [hb.cell (show B < w.heap.size from h.wide.lt)]; exact h.cn
  cs := by rw [hb.cell (show B < w.heap.size from h.wide.lt)]; exact h.cs
  cm := by rw [hb.cell (show B < w.heap.size from h.wide.lt)]; exact h.cm
theorem ExAt.grown {row : Option Nat} (h : ExAt w B V d p l n s m) (hg : w.grownBy w' row) (hr : row ≠ some B) : ExAt w' B V d p l n s m := by
  have hc : ∀ k, w'.cell? ⟨B, k, none⟩ = w.cell? ⟨B, k, none⟩ := fun k => World.cell?_of_block (a := ⟨B, k, none⟩) (hg.block B h.wide.lt (Ne.symm hr))
  exact ⟨h.wide.grown hg hr, by rw [hc]; exact h.cd, by rw [hc]; exact h.cp, by rw [hc]; exact h.cl, by rw [hc]; exact h.cn, by rw [hc]; exact h.cs, by rw [hc]; exact h.cm⟩
theorem ExAt.chg (h : ExAt w B V d p l n s m) (c : Chg w w' B 0 72) (hU : WideAt w' B 0 U) : ExAt w' B U d p l n s m :=
  ⟨hU, by rw [c.cell 72 (by omega)]; exact h.cd, by rw [c.cell 73 (by omega)]; exact h.cp, by rw [c.cell 74 (by omega)]; exact h.cl, by rw [c.cell 75 (by omega)]; exact h.cn, by rw [c.cell 76 (by omega)]; exact h.cs, by rw [c.cell 77 (by omega)]; exact h.cm⟩
theorem WideAt.past {o k : Nat} (h : WideAt w B o V) (hk : o + 72 ≤ k) (v : Value) : WideAt (w.setCell ⟨B, k, none⟩ v) B o V where
  lt := by rw [Reg.size_setCell]; exact h.lt
  fr j := by simp only [World.frozen?_setCell]; exact h.fr j
  cell i hi := by rw [World.cell?_setCell_other _ _ _ _ (by intro e; injection e with _ e2; omega)]; exact h.cell i hi
theorem cell_past {k j : Nat} {v u : Value} (h : w.cell? ⟨B, j, none⟩ = some u) (hk : k ≠ j) : (w.setCell ⟨B, k, none⟩ v).cell? ⟨B, j, none⟩ = some u := by
  rw [World.cell?_setCell_other _ _ _ _ (by intro e; injection e with _ e2; omega)]; exact h
theorem cell_here {k : Nat} {v u : Value} (h : w.cell? ⟨B, k, none⟩ = some u) : (w.setCell ⟨B, k, none⟩ v).cell? ⟨B, k, none⟩ = some v := World.cell?_setCell_same _ _ _ h
theorem ExAt.setP (h : ExAt w B V d p l n s m) : ExAt (w.setCell ⟨B, 73, none⟩ (.bool b)) B V d b l n s m :=
  ⟨h.wide.past (by omega) _, cell_past h.cd (by omega), cell_here h.cp, cell_past h.cl (by omega), cell_past h.cn (by omega), cell_past h.cs (by omega), cell_past h.cm (by omega)⟩
theorem ExAt.setL (h : ExAt w B V d p l n s m) : ExAt (w.setCell ⟨B, 74, none⟩ (.bool b)) B V d p b n s m :=
  ⟨h.wide.past (by omega) _, cell_past h.cd (by omega), cell_past h.cp (by omega), cell_here h.cl, cell_past h.cn (by omega), cell_past h.cs (by omega), cell_past h.cm (by omega)⟩
theorem ExAt.setN (h : ExAt w B V d p l n s m) : ExAt (w.setCell ⟨B, 75, none⟩ (.bool b)) B V d p l b s m :=
  ⟨h.wide.past (by omega) _, cell_past h.cd (by omega), cell_past h.cp (by omega), cell_past h.cl (by omega), cell_here h.cn, cell_past h.cs (by omega), cell_past h.cm (by omega)⟩
theorem ExAt.setS (h : ExAt w B V d p l n s m) : ExAt (w.setCell ⟨B, 76, none⟩ (.bool b)) B V d p l n b m :=
  ⟨h.wide.past (by omega) _, cell_past h.cd (by omega), cell_past h.cp (by omega), cell_past h.cl (by omega), cell_past h.cn (by omega), cell_here h.cs, cell_past h.cm (by omega)⟩
theorem ExAt.setM (h : ExAt w B V d p l n s m) : ExAt (w.setCell ⟨B, 77, none⟩ (.bool b)) B V d p l n s b :=
  ⟨h.wide.past (by omega) _, cell_past h.cd (by omega), cell_past h.cp (by omega), cell_past h.cl (by omega), cell_past h.cn (by omega), cell_past h.cs (by omega), cell_here h.cm⟩
end

attribute [local go_sem] m64bits m64from
theorem signbit_any (b : Nat) (w : World) (hb : b < 2 ^ 64) : Calls Try.prog 106 #[.float .f64 b] w fun en w' => en = .returned (.bool (negB b)) ∧ w = w' := by
  obtain ⟨r, hr⟩ : ∃ r, r = negB b := ⟨_, rfl⟩
  rw [← hr]
  by_cases h1 : b < 9223372036854775808
  · have hr0 : r = false := by rw [hr]; unfold negB; exact decide_eq_false (by omega)
    subst hr0
    have hw : ¬ wrap64 (b : Int) < 0 := by unfold wrap64; omega
    clear hr
    go_enter Try.func106, Try.ntmps106
    go_wp2_with fail
    go_ret
    exact ⟨rfl, rfl⟩
  · have hr0 : r = true := by rw [hr]; unfold negB; exact decide_eq_true (by omega)
    subst hr0
    have hw : wrap64 (b : Int) < 0 := by unfold wrap64; omega
    clear hr
    go_enter Try.func106, Try.ntmps106
    go_wp2_with fail
    go_ret
    exact ⟨rfl, rfl⟩

theorem frexp_abs (b : Nat) (w : World) (hf : finB b) :
    Calls Try.prog 105 #[.float .f64 (b % 9223372036854775808 : Nat)] w fun en w' => en = .returned (.tuple #[.float .f64 (frF b), .int .i64 (frE b)]) ∧ w = w' := by
  obtain ⟨a1, a2, a3, a4⟩ := abs_fin hf
  unfold frF frE
  by_cases h0 : mantB b = 0
  · rw [if_pos h0, if_pos h0]
    have := mFrexp_zero (b % 9223372036854775808) w a1.1 (by rw [a3]; exact h0)
    rw [mant_zero.1 h0] at this ⊢
    exact this
  · rw [if_neg h0, if_neg h0]
    have := mFrexp_any (b % 9223372036854775808) w a1 (by rw [a3]; exact h0)
    rw [show lgB (b % 9223372036854775808) = lgB b by unfold lgB; rw [a3, a4]] at this
    exact this
end Go.Proofs.Ytjakjnmfndfehaa
