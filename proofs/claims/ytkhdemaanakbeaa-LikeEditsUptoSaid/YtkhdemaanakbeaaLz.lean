/- Floats of 64 bits known up to which no number they are: words, rows of them, what a letter costs, the lesser one. Conditions: as in XLm, XLo. -/
import Derived.Test.YtkhdemaanakbeaaRz
import Derived.Test.YtkhdemaanakbeaaLr
namespace Go.Pst
open Go Ieee Go.RowKit
set_option linter.unusedVariables false
theorem cut_lt64 (q : Nat) (x y : Nat) : (Question.nanBits .f64 x y).cut q < 2 ^ 64 := by
  unfold Question.cut
  simp only
  have h1 : q % 2 = 0 ∨ q % 2 = 1 := by omega
  have h2 : q / 2 % (2 ^ 52 - 1) < 2 ^ 52 - 1 := Nat.mod_lt _ (by decide)
  generalize q / 2 % (2 ^ 52 - 1) = z at *
  omega
theorem cut_cv64 (q : Nat) (c : Nat) : (Question.nanConv .f64 c).cut q < 2 ^ 64 := by
  unfold Question.cut
  simp only
  have h1 : q % 2 = 0 ∨ q % 2 = 1 := by omega
  have h2 : q / 2 % (2 ^ 52 - 1) < 2 ^ 52 - 1 := Nat.mod_lt _ (by decide)
  generalize q / 2 % (2 ^ 52 - 1) = z at *
  omega
theorem arU_lt (op : BinOp) (w : World) (x y : Nat) : arU op w x y < 2 ^ 64 := by
  unfold arU
  cases h : arD op x y with
  | some r => exact (arD_some h).2
  | none => exact cut_lt64 _ _ _
theorem widU_lt (w : World) (c : Nat) : widU w c < 2 ^ 64 := by
  unfold widU
  cases h : widD c with
  | some r => exact (widD_some h).2
  | none => exact cut_cv64 _ _
theorem veq2_of_cn {u v : Nat} (hl : nan64 u = true → u < 2 ^ 64) (h : cn u = cn v) : Reg2.Veq (.float .f64 u) (.float .f64 v) := by
  by_cases hu : nan64 u = true
  · have hv : nan64 v = true := by rw [← cn_nan, ← h, cn_nan]; exact hu
    exact .inr ⟨.f64, u, v, rfl, rfl, by rw [isNaN64]; exact hu, by rw [isNaN64]; exact hv, hl hu⟩
  · simp only [Bool.not_eq_true] at hu
    have hv : nan64 v = false := by rw [← cn_nan, ← h, cn_nan]; exact hu
    rw [cn_of u hu, cn_of v hv] at h
    rw [h]; exact Reg2.Veq.refl _
theorem cn_of_veq2 {u : Value} {v : Nat} (h : Reg2.Veq u (.float .f64 v)) : ∃ x, u = .float .f64 x ∧ cn x = cn v ∧ (x = v ∨ x < 2 ^ 64) := by
  obtain ⟨x, rfl, h | ⟨h1, h2, h3⟩⟩ := Reg2.Veq.of_float h
  · exact ⟨x, rfl, by rw [h], .inl h⟩
  · rw [isNaN64] at h1 h2
    exact ⟨x, rfl, by rw [cn_of_nan _ h1, cn_of_nan _ h2], .inr h3⟩
theorem lt_of {z V : Nat} (l : z = V ∨ z < 2 ^ 64) (hV : V < 2 ^ 64) : z < 2 ^ 64 := by rcases l with h | h <;> omega
/-- A float of 64 bits with all that are no numbers as one; no word at all of more bits. -/
def cb (x : Nat) : Nat := if x < 2 ^ 64 then cn x else 2 ^ 64
theorem cb_of {x : Nat} (h : x < 2 ^ 64) : cb x = cn x := if_pos h
theorem cb_cn {x t : Nat} (h : cb x = t) (ht : t < 2 ^ 64) : cn x = t ∧ x < 2 ^ 64 := by
  unfold cb at h
  split at h
  · exact ⟨h, by assumption⟩
  · omega
end Go.Pst
namespace Go.Proofs.Ytkhdemaanakbeaa
open Go.RowKit Go.Pst
set_option maxRecDepth 20000
set_option linter.unusedSimpArgs false
set_option linter.unusedVariables false
/-- The rows that are done. -/
def RowsR2 (w : World) (H m i : Nat) (R : Nat → Nat) (T : Nat → Nat → Nat) (t : TypeId) : Prop :=
  ∀ r, r < i → H < R r ∧ ∃ cs, w.heap[R r]? = some (.cells cs t (0, 0)) ∧ ∀ j, j < m → ∃ x, cs[j]? = some (.float .f64 x) ∧ cb x = T r j

section
variable {w w' : World} {H m i : Nat} {R : Nat → Nat} {T : Nat → Nat → Nat} {t : TypeId}
theorem heap_lt2 {w : World} {k : Nat} {o : Obj} (h : w.heap[k]? = some o) : k < w.heap.size := by
  rcases Nat.lt_or_ge k w.heap.size with h' | h'
  · exact h'
  · rw [Array.getElem?_eq_none h'] at h; cases h
theorem RowsR2.lt (h : RowsR2 w H m i R T t) {r : Nat} (hr : r < i) : R r < w.heap.size := by
  obtain ⟨_, cs, h1, _⟩ := h r hr; exact heap_lt h1
theorem RowsR2.below (h : RowsR2 w H m i R T t) (hb : Below w.heap.size w w') : RowsR2 w' H m i R T t := fun r hr => by
  obtain ⟨h0, cs, h1, h2⟩ := h r hr
  exact ⟨h0, cs, (hb.block _ (heap_lt h1)).trans h1, h2⟩
theorem RowsR2.grown {row : Option Nat} (h : RowsR2 w H m i R T t) (hg : w.grownBy w' row) (hr : ∀ r, r < i → some (R r) ≠ row) : RowsR2 w' H m i R T t := fun r hri => by
  obtain ⟨h0, cs, h1, h2⟩ := h r hri
  exact ⟨h0, cs, (hg.block _ (heap_lt h1) (hr r hri)).trans h1, h2⟩
theorem RowsR2.cell (h : RowsR2 w H m i R T t) {r j : Nat} (hr : r < i) (hj : j < m) : ∃ x, w.cell? ⟨R r, j, none⟩ = some (.float .f64 x) ∧ cb x = T r j := by
  obtain ⟨h0, cs, h1, h2⟩ := h r hr
  obtain ⟨x, h3, h4⟩ := h2 j hj
  exact ⟨x, by rw [cell_of_row w (R r) j cs t (0, 0) h1]; exact h3, h4⟩
end
/-- What a row's block is when it is done. -/
theorem row_done2 {w : World} {base g cap n H : Nat} {e : TypeId} {f : Nat → Nat} {T : Nat → Nat → Nat} {i : Nat} (h : w.ownsRow base e 1 (.slice (some ⟨g, 0, none⟩) n cap) n (nums f n)) (hH : H < base)
    (hf : ∀ k, k < n → cb (f k) = T i k) : H < g ∧ ∃ cs, w.heap[g]? = some (.cells cs e (0, 0)) ∧ ∀ j, j < n → ∃ x, cs[j]? = some (.float .f64 x) ∧ cb x = T i j := by
  rcases h.2 with ⟨h1, _⟩ | ⟨g', cap', cur, h1, h2, h3, h4, h5, h6, h7⟩
  · cases h1
  · injection h1 with h1 _ _
    injection h1 with h1
    injection h1 with h1
    subst h1
    refine ⟨by omega, cur, h3, fun j hj => ⟨f j, ?_, hf j hj⟩⟩
    have hu := nums_get f hj
    rw [← h7, Nat.mul_one, List.getElem?_take_of_lt hj] at hu
    simpa using hu


def OthPost2 (V : Nat) (w : World) (en : Ending) (w' : World) : Prop := ∃ u, en = .returned (.float .f64 u) ∧ cn u = V ∧ u < 2 ^ 64 ∧ Below w.heap.size w w'
attribute [local go_sem] run_wid_cost'
set_option maxHeartbeats 2000000 in
theorem rput2_any (cI cO cX cT : Nat) (A : Option Addr) (n c : Nat) (p : Nat → Int × Int × Nat) (a b : Int) (w : World) (hn : n ≤ 4096) (hp : PairsAt w w.heap.size A n p) (hr : Rising n p) (lX : cX < 2 ^ 64) :
    Calls Try.prog 51 #[.agg #[.float .f64 cI, .float .f64 cO, .float .f64 cX, .float .f64 cT, .slice A n c], .int .i32 a, .int .i32 b] w (OthPost2 (cn (othV p n cX a b)) w) := by
  by_cases hab : a = b
  · subst hab
    have e : cn (othV p n cX a a) = 0 := by unfold othV; rw [if_pos rfl]; decide
    rw [e]
    go_enter Try.func51, Try.ntmps51
    go_wp2
    go_ret
    exact ⟨0, rfl, by decide, by decide, (Below.refl _ _).alloc (Nat.le_refl _) _⟩
  · have e : othV p n cX a b = putV p cX a b n := by unfold othV; rw [if_neg hab]
    rw [e]
    have HP := Lib.hid hp; have HR := Lib.hid hr; clear hp hr e
    have ha : (a == b) = false := by simpa using hab
    clear hab
    go_enter Try.func51, Try.ntmps51
    go_wp2_with fail
    go_loopw [7] (fun t wr => ∃ k : Nat, t = .int .i64 k ∧ k ≤ n ∧ (∀ i, i < k → ¬ ((p i).1 = a ∧ (p i).2.1 = b)) ∧ Reg.Own w wr [(w.heap.size, #[.float .f64 cI, .float .f64 cO, .float .f64 cX, .float .f64 cT, .slice A n c], 39)]) (fun t _ => n - (intOf t).toNat)
    case atStart => exact ⟨0, rfl, by omega, fun i h => by omega, (Reg.Own.nil w).alloc rfl _ _⟩
    case round =>
      obtain ⟨k, rfl, hk, hl, HO'⟩ := hrel
      have HL := Lib.hid hl; clear hl
      have O := HO'
      obtain ⟨c0, f0, z0, y0, -, zz⟩ := O.rules
      have HO := Lib.hid O; clear O
      by_cases hkn : k < n
      · obtain ⟨g, off, rfl, hg, hcell⟩ := (HP.out.below HO.out.below (Nat.le_refl _)) (by omega)
        obtain ⟨q1, q2, q3⟩ := hcell k hkn
        have hg2 : g < wr.heap.size := by omega
        have hk1 : (k : Int) < (n : Int) := by omega
        clear hcell
        cases t1 : ((p k).1 == a)
        · have HK := Lib.hid t1
          go_wp2_with fail
          go_roundw
          case rel => exact ⟨k + 1, by go_num, by omega, fun i hi => (by
            rcases Nat.lt_or_ge i k with hx | hx
            · exact HL.out i hx
            · obtain rfl : i = k := by omega
              intro h; have := HK.out; simp [h.1] at this), HO.out⟩
          case measure => simp [intOf]; omega
        · cases t2 : ((p k).2.1 == b)
          · have HK := Lib.hid t2
            go_wp2_with fail
            go_roundw
            case rel => exact ⟨k + 1, by go_num, by omega, fun i hi => (by
              rcases Nat.lt_or_ge i k with hx | hx
              · exact HL.out i hx
              · obtain rfl : i = k := by omega
                intro h; have := HK.out; simp [h.2] at this), HO.out⟩
            case measure => simp [intOf]; omega
          · have HV := Lib.hid (putV_first HR.out cX a b k hkn ⟨by simpa using t1, by simpa using t2⟩)
            go_wp2_with fail
            go_ret
            exact ⟨_, rfl, by rw [HV.out, cn_widV]; exact cn_widU _ _, widU_lt _ _, wIf_below _ _ HO.out.below⟩
      · obtain rfl : k = n := by omega
        have hk1 : ¬ (k : Int) < (k : Int) := by omega
        have HV := Lib.hid (putV_none p cX a b k HL.out)
        go_wp2_with fail
        go_ret
        exact ⟨cX, rfl, by rw [HV.out], lX, HO.out.below⟩


theorem leastup2 (V1 V2 y1 y2 : Nat) (w : World) (h1 : cn y1 = cn V1) (h2 : cn y2 = cn V2) (l1 : y1 < 2 ^ 64) (l2 : y2 < 2 ^ 64) :
    Calls Try.prog 50 #[.float .f64 y1, .float .f64 y2] w fun e w'' => ∃ u, e = .returned u ∧ (u = .float .f64 (minF V1 V2) ∨ (true = true ∧ Reg2.Veq u (.float .f64 (minF V1 V2)))) ∧ Below w.heap.size w w'' :=
  (least_any y1 y2 w (fun _ => l1) (fun _ => l2)).mono
    fun en w'' ⟨e1, e2⟩ => ⟨_, e1, .inr ⟨rfl, veq2_of_cn (fun _ => minF_lt _ _ l1 l2) (by rw [cn_minF, cn_minF, h1, h2])⟩, by subst e2; exact Below.refl _ _⟩
end Go.Proofs.Ytkhdemaanakbeaa
