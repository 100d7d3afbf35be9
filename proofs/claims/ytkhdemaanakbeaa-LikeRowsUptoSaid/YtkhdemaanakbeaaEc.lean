/- A list of edits in memory; turned about in place: walk. Condition: not too many edits. -/
import Derived.Test.YtkhdemaanakbeaaEb
import Derived.Test.YtkhdemaanakbeaaLk
import Derived.Laws.OwnMore
namespace Go.Proofs.Ytkhdemaanakbeaa
open Go.RowKit Go.Pst
set_option maxRecDepth 20000
set_option linter.unusedSimpArgs false
set_option linter.unusedVariables false
def flatE (E : Nat → Int × Int × Int) : Nat → List Value
  | 0 => []
  | n + 1 => flatE E n ++ [.int .i64 (E n).1, .int .i32 (E n).2.1, .int .i32 (E n).2.2]
theorem flatE_length (E : Nat → Int × Int × Int) : ∀ n, (flatE E n).length = n * 3
  | 0 => rfl
  | n + 1 => by unfold flatE; rw [List.length_append, flatE_length E n]; simp; omega
theorem flatE_get (E : Nat → Int × Int × Int) (i : Nat) : ∀ n, i < n → (flatE E n)[i * 3]? = some (.int .i64 (E i).1) ∧ (flatE E n)[i * 3 + 1]? = some (.int .i32 (E i).2.1) ∧ (flatE E n)[i * 3 + 2]? = some (.int .i32 (E i).2.2)
  | 0, h => by omega
  | n + 1, h => by
    have hl := flatE_length E n
    unfold flatE
    by_cases hi : i < n
    · obtain ⟨e1, e2, e3⟩ := flatE_get E i n hi
      rw [List.getElem?_append_left (by omega), List.getElem?_append_left (by omega), List.getElem?_append_left (by omega)]
      exact ⟨e1, e2, e3⟩
    · obtain rfl : i = n := by omega
      rw [List.getElem?_append_right (by omega), List.getElem?_append_right (by omega), List.getElem?_append_right (by omega), hl]
      simp [show i * 3 + 1 - i * 3 = 1 by omega, show i * 3 + 2 - i * 3 = 2 by omega]
theorem flatE_congr {E E' : Nat → Int × Int × Int} : ∀ n, (∀ i, i < n → E i = E' i) → flatE E n = flatE E' n
  | 0, _ => rfl
  | n + 1, h => by unfold flatE; rw [flatE_congr n fun i hi => h i (by omega), h n (by omega)]
def updE (E : Nat → Int × Int × Int) (i : Nat) (x : Int × Int × Int) (k : Nat) : Int × Int × Int := if k = i then x else E k
theorem flatE_set (E : Nat → Int × Int × Int) (i : Nat) (x : Int × Int × Int) : ∀ n, i < n → (((flatE E n).set (i * 3) (.int .i64 x.1)).set (i * 3 + 1) (.int .i32 x.2.1)).set (i * 3 + 2) (.int .i32 x.2.2) = flatE (updE E i x) n
  | 0, h => by omega
  | n + 1, h => by
    have hl := flatE_length E n
    have e0 : ∀ k, flatE (updE E i x) (k + 1) = flatE (updE E i x) k ++ [.int .i64 (updE E i x k).1, .int .i32 (updE E i x k).2.1, .int .i32 (updE E i x k).2.2] := fun _ => rfl
    rw [e0]
    have e1 : flatE E (n + 1) = flatE E n ++ [.int .i64 (E n).1, .int .i32 (E n).2.1, .int .i32 (E n).2.2] := rfl
    rw [e1]
    by_cases hi : i < n
    · rw [List.set_append_left _ _ (by omega), List.set_append_left _ _ (by simp; omega), List.set_append_left _ _ (by simp; omega), flatE_set E i x n hi]
      unfold updE; rw [if_neg (by omega)]
    · obtain rfl : i = n := by omega
      rw [List.set_append_right _ _ (by omega), List.set_append_right _ _ (by omega), List.set_append_right _ _ (by omega), hl, Nat.sub_self, show i * 3 + 1 - i * 3 = 1 by omega, show i * 3 + 2 - i * 3 = 2 by omega]
      rw [flatE_congr (E := updE E i x) (E' := E) i (fun k hk => by unfold updE; rw [if_neg (by omega)])]
      unfold updE; rw [if_pos rfl]; rfl
/-- Where edits lie. -/
def EdAt (w : World) (B : Nat) (A : Option Addr) (n : Nat) (E : Nat → Int × Int × Int) : Prop :=
  0 < n → ∃ g off, A = some ⟨g, off, none⟩ ∧ g < B ∧ ∀ i, i < n → w.cell? ⟨g, off + i * 3, none⟩ = some (.int .i64 (E i).1) ∧ w.cell? ⟨g, off + i * 3 + 1, none⟩ = some (.int .i32 (E i).2.1) ∧ w.cell? ⟨g, off + i * 3 + 2, none⟩ = some (.int .i32 (E i).2.2)
theorem EdAt.below {w w' : World} {B C : Nat} {A : Option Addr} {n : Nat} {E : Nat → Int × Int × Int} (h : EdAt w B A n E) (hb : Below C w w') (hB : B ≤ C) : EdAt w' B A n E := fun hn => by
  obtain ⟨g, off, e, h1, h2⟩ := h hn
  refine ⟨g, off, e, h1, fun i hi => ?_⟩
  obtain ⟨c1, c2, c3⟩ := h2 i hi
  have hg : g < C := by omega
  exact ⟨(hb.cell (p := ⟨g, off + i * 3, none⟩) hg).trans c1, (hb.cell (p := ⟨g, off + i * 3 + 1, none⟩) hg).trans c2, (hb.cell (p := ⟨g, off + i * 3 + 2, none⟩) hg).trans c3⟩
theorem EdAt.more {w : World} {B C : Nat} {A : Option Addr} {n : Nat} {E : Nat → Int × Int × Int} (h : EdAt w B A n E) (hB : B ≤ C) : EdAt w C A n E := fun hn => by
  obtain ⟨g, off, e, h1, h2⟩ := h hn
  exact ⟨g, off, e, by omega, h2⟩
theorem ed_of_own {w : World} {base n c : Nat} {e : TypeId} {A : Option Addr} {E : Nat → Int × Int × Int} (h : w.ownsRow base e 3 (.slice A n c) n (flatE E n)) : EdAt w w.heap.size A n E := fun hn => by
  obtain ⟨g, cap, hv, _, hlt⟩ := h.form hn
  have hA : A = some ⟨g, 0, none⟩ := by injection hv
  subst hA
  refine ⟨g, 0, rfl, hlt, fun i hi => ?_⟩
  obtain ⟨e1, e2, e3⟩ := flatE_get E i n hi
  have hc := h.cells (g := g) rfl
  have ha : ∀ j, ((⟨g, 0, none⟩ : Addr).add j) = ⟨g, 0 + j, none⟩ := fun j => by unfold Addr.add; split <;> simp_all
  have c1 := hc _ _ e1
  have c2 := hc _ _ e2
  have c3 := hc _ _ e3
  rw [ha] at c1 c2 c3
  exact ⟨c1, by rw [Nat.add_assoc]; exact c2, by rw [Nat.add_assoc]; exact c3⟩
/-- Turned about as far as k from both ends. -/
def rvE (E : Nat → Int × Int × Int) (n k i : Nat) : Int × Int × Int := if i < k ∨ n - k ≤ i then E (n - 1 - i) else E i
theorem rvE_next (E : Nat → Int × Int × Int) {n k : Nat} (h : k < n - 1 - k) : ∀ i, i < n → updE (updE (rvE E n k) k (rvE E n k (n - 1 - k))) (n - 1 - k) (rvE E n k k) i = rvE E n (k + 1) i := fun i hi => by
  unfold updE rvE
  rw [if_neg (show ¬ (n - 1 - k < k ∨ n - k ≤ n - 1 - k) by omega), if_neg (show ¬ (k < k ∨ n - k ≤ k) by omega)]
  by_cases h1 : i = n - 1 - k
  · rw [if_pos h1, if_pos (by omega), show n - 1 - i = k by omega]
  · rw [if_neg h1]
    by_cases h2 : i = k
    · rw [if_pos h2, if_pos (by omega), h2]
    · rw [if_neg h2]
      by_cases h3 : i < k ∨ n - k ≤ i
      · rw [if_pos h3, if_pos (by omega)]
      · rw [if_neg h3, if_neg (by omega)]
theorem rvE_done (E : Nat → Int × Int × Int) {n k : Nat} (h : ¬ k < n - 1 - k) (hk : k ≤ n) : ∀ i, i < n → rvE E n k i = E (n - 1 - i) := fun i hi => by
  unfold rvE
  by_cases h3 : i < k ∨ n - k ≤ i
  · rw [if_pos h3]
  · rw [if_neg h3, show n - 1 - i = i by omega]
set_option maxHeartbeats 2000000 in
theorem reverse_any (base n c : Nat) (A : Option Addr) (E : Nat → Int × Int × Int) (w : World) (hn : n ≤ 4194304) (h : w.ownsRow base 79 3 (.slice A n c) n (flatE E n)) (hb : base ≤ w.heap.size) :
    Calls Try.prog 56 #[.slice A n c] w fun en w' => (∃ v, en = .returned v) ∧ Below base w w' ∧ w'.ownsRow base 79 3 (.slice A n c) n (flatE (fun i => E (n - 1 - i)) n) := by
  have HW := Lib.hid h
  clear h
  go_enter Try.func56, Try.ntmps56
  go_wp2_with fail
  go_loopw [2, 3] (fun s t wr => ∃ k : Nat, s = .int .i64 (k : Int) ∧ t = .int .i64 ((n : Int) - 1 - k) ∧ k ≤ n ∧ Below base w wr ∧ wr.ownsRow base 79 3 (.slice A n c) n (flatE (rvE E n k) n)) (fun s _ _ => n - (intOf s).toNat)
  case atStart => exact ⟨0, rfl, by go_num, by omega, Below.refl _ _, by rw [flatE_congr n (E' := E) (fun i hi => by unfold rvE; rw [if_neg (by omega)])]; exact HW.out⟩
  case round =>
    obtain ⟨k, rfl, rfl, hk, hbw, hw⟩ := hrel
    by_cases hkn : k < n - 1 - k
    · obtain ⟨g, cap, hv, hbg, hlt⟩ := hw.form (by omega)
      have hA : A = some ⟨g, 0, none⟩ := by injection hv
      subst hA
      have hcap : c = cap := by injection hv
      subst hcap
      obtain ⟨m, hm⟩ : ∃ m, m = n - 1 - k := ⟨_, rfl⟩
      have em : (n : Int) - 1 - (k : Int) = (m : Int) := by omega
      have g1 : (k : Int) < (m : Int) ∧ (0 : Int) ≤ (k : Int) ∧ (m : Int) < (n : Int) ∧ (k : Int) < (n : Int) := by omega
      obtain ⟨g1, g2, g3, g4⟩ := g1
      have cA := fun j (hj : j < n * 3) => hw.cellAt j hj
      obtain ⟨e1, e2, e3⟩ := flatE_get (rvE E n k) k n (by omega)
      obtain ⟨d1, d2, d3⟩ := flatE_get (rvE E n k) m n (by omega)
      have a1 := (cA (k * 3) (by omega)).trans e1
      have a2 := (cA (k * 3 + 1) (by omega)).trans e2
      have a3 := (cA (k * 3 + 2) (by omega)).trans e3
      have b1 := (cA (m * 3) (by omega)).trans d1
      have b2 := (cA (m * 3 + 1) (by omega)).trans d2
      have b3 := (cA (m * 3 + 2) (by omega)).trans d3
      have fr := fun j => hw.frozenAt j
      have HM := Lib.hid hm; have HWR := Lib.hid hw; have HKN := Lib.hid hkn; have HB := Lib.hid hbw
      rw [em]
      clear hm hv cA e1 e2 e3 d1 d2 d3 hw hkn em hbw
      go_wp2_with fail
      go_region
      have s1 := (((((((HWR.out.stored (k * 3) (.int .i64 (rvE E n k m).1)).1.stored (k * 3 + 1) (.int .i32 (rvE E n k m).2.1)).1.stored (k * 3 + 2) (.int .i32 (rvE E n k m).2.2)).1.stored (m * 3) (.int .i64 (rvE E n k k).1)).1.stored (m * 3 + 1) (.int .i32 (rvE E n k k).2.1)).1.stored (m * 3 + 2) (.int .i32 (rvE E n k k).2.2)).1).drew
      have hkn := HKN.out; have hm := HM.out
      rw [flatE_set (rvE E n k) k (rvE E n k m) n (by omega), flatE_set _ m (rvE E n k k) n (by omega)] at s1
      have hnext : flatE (updE (updE (rvE E n k) k (rvE E n k m)) m (rvE E n k k)) n = flatE (rvE E n (k + 1)) n := flatE_congr n fun i hi => by rw [hm]; exact rvE_next E hkn i hi
      rw [hnext] at s1
      have S1 := Lib.hid s1
      have B1 := Lib.hid ((((((((HB.out.setCell (p := ⟨g, k * 3, none⟩) hbg (.int .i64 (rvE E n k m).1)).setCell (p := ⟨g, k * 3 + 1, none⟩) hbg (.int .i32 (rvE E n k m).2.1)).setCell (p := ⟨g, k * 3 + 2, none⟩) hbg (.int .i32 (rvE E n k m).2.2)).setCell (p := ⟨g, m * 3, none⟩) hbg (.int .i64 (rvE E n k k).1)).setCell (p := ⟨g, m * 3 + 1, none⟩) hbg (.int .i32 (rvE E n k k).2.1)).setCell (p := ⟨g, m * 3 + 2, none⟩) hbg (.int .i32 (rvE E n k k).2.2))).drew)
      clear s1 hnext a1 a2 a3 b1 b2 b3 fr hm hkn
      go_wp2_with fail
      go_roundw
      case rel => exact ⟨k + 1, by go_num, by have := HM.out; have := HKN.out; refine congrArg (Value.int .i64) ?_; omega, by omega, B1.out, S1.out⟩
      case measure => (simp [intOf] <;> omega)
    · have em : ¬ (k : Int) < (n : Int) - 1 - (k : Int) := by omega
      have HD := Lib.hid hw; have HB := Lib.hid hbw; have HKN := Lib.hid hkn
      clear hw hbw hkn
      go_wp2_with fail
      go_end0
      refine ⟨⟨_, rfl⟩, HB.out, ?_⟩
      rw [← flatE_congr n (E := rvE E n k) (fun i hi => rvE_done E HKN.out hk i hi)]
      exact HD.out
end Go.Proofs.Ytkhdemaanakbeaa
