/- A sum in memory; Frexp of a size; whether a sign is set. Conditions: finite numbers. · A term is added to a sum: the program's walk. Conditions: one or two finite numbers. · A whole number over a power of two rounded once, by its bits: plain. No condition. · A number of 72 words over a power of two as a float: the program's walk. Conditions: from 1074 to 2148 places behind the point. · A sum in memory: an infinite number is added; the sum as a float. Condition: the sum is there. · The exact sum of numbers, rounded once: what it is, plain; and total.Exact's walk. Condition: at most 65536 numbers. -/
import Derived.Test.YtjakjnmfndfehaaDa
import Derived.Deep.WholeRow
namespace Go.Proofs.Ytjakjnmfndfehaa
open Go.RowKit Go.Pst
set_option maxRecDepth 20000
set_option linter.unusedSimpArgs false
set_option linter.unusedVariables false

/-- One block may be written, and new ones made. -/
def Fr (w w' : World) (B : Nat) : Prop := w.grownBy w' (some B)
section
variable {w w' w2 : World} {B Bn o n : Nat}
theorem Fr.refl (w : World) (B : Nat) : Fr w w B := ⟨rfl, rfl, rfl, Nat.le_refl _, fun k _ _ => rfl⟩
theorem Fr.after {m : Nat} (h : Fr w w' B) (hb : Below m w' w2) (hm : w.heap.size ≤ m) : Fr w w2 B :=
  ⟨hb.os.trans h.os, hb.tape.trans h.tape, hb.output.trans h.output, Nat.le_trans h.size hb.size, fun j hj hne => (hb.block j (Nat.lt_of_lt_of_le hj hm)).trans (h.block j hj hne)⟩
theorem Fr.setB (h : Fr w w' B) (k : Nat) (v : Value) : Fr w (w'.setCell ⟨B, k, none⟩ v) B :=
  ⟨h.os, h.tape, h.output, by rw [Reg.size_setCell]; exact h.size, fun j hj hne => by rw [heap_setCell_other w' ⟨B, k, none⟩ j v (fun e => hne (by rw [e]))]; exact h.block j hj hne⟩
theorem Fr.chgB (h : Fr w w' B) (c : Chg w' w2 B o n) : Fr w w2 B :=
  ⟨c.g.os.trans h.os, c.g.tape.trans h.tape, c.g.output.trans h.output, Nat.le_trans h.size c.g.size, fun j hj hne => (c.g.block j (Nat.lt_of_lt_of_le hj h.size) hne).trans (h.block j hj hne)⟩
theorem Fr.chgN (h : Fr w w' B) (c : Chg w' w2 Bn o n) (hn : w.heap.size ≤ Bn) : Fr w w2 B :=
  ⟨c.g.os.trans h.os, c.g.tape.trans h.tape, c.g.output.trans h.output, Nat.le_trans h.size c.g.size, fun j hj hne => (c.g.block j (Nat.lt_of_lt_of_le hj h.size) (fun e => by injection e with e; omega)).trans (h.block j hj hne)⟩
theorem Fr.trans (h : Fr w w' B) (h2 : Fr w' w2 B) : Fr w w2 B :=
  ⟨h2.os.trans h.os, h2.tape.trans h.tape, h2.output.trans h.output, Nat.le_trans h.size h2.size, fun j hj hne => (h2.block j (Nat.lt_of_lt_of_le hj h.size) hne).trans (h.block j hj hne)⟩
/-- The block is a new one of somebody above. -/
theorem Fr.below {w0 : World} {m : Nat} (hb : Below m w0 w) (h : Fr w w' B) (hB : m ≤ B) (hm : m ≤ w.heap.size) : Below m w0 w' :=
  ⟨h.os.trans hb.os, h.tape.trans hb.tape, h.output.trans hb.output, Nat.le_trans hb.size h.size, fun k hk => (h.block k (Nat.lt_of_lt_of_le hk hm) (fun e => by injection e with e; omega)).trans (hb.block k hk)⟩
end

/-- A sum in memory: the words, how many places are behind the point, what was there. -/
structure ExAt (w : World) (B : Nat) (V : Nat → Nat) (d : Int) (p l n s m : Bool) : Prop where
  wide : WideAt w B 0 V
  cd : w.cell? ⟨B, 72, none⟩ = some (.int .i64 d)
  cp : w.cell? ⟨B, 73, none⟩ = some (.bool p)
  cl : w.cell? ⟨B, 74, none⟩ = some (.bool l)
  cn : w.cell? ⟨B, 75, none⟩ = some (.bool n)
  cs : w.cell? ⟨B, 76, none⟩ = some (.bool s)
  cm : w.cell? ⟨B, 77, none⟩ = some (.bool m)
section
variable {w w' : World} {B : Nat} {V U : Nat → Nat} {d : Int} {p l n s m b : Bool}
theorem ExAt.below (h : ExAt w B V d p l n s m) (hb : Below w.heap.size w w') : ExAt w' B V d p l n s m where
  wide := h.wide.below hb
  cd := by rw [hb.cell (show B < w.heap.size from h.wide.lt)]; exact h.cd
  cp := by rw [hb.cell (show B < w.heap.size from h.wide.lt)]; exact h.cp
  cl := by rw [hb.cell (show B < w.heap.size from h.wide.lt)]; exact h.cl
  cn := by rw [hb.cell (show B < w.heap.size from h.wide.lt)]; exact h.cn
  cs := by rw [hb.cell (show B < w.heap.size from h.wide.lt)]; exact h.cs
  cm := by rw [hb.cell (show B < w.heap.size from h.wide.lt)]; exact h.cm
theorem ExAt.grown {row : Option Nat} (h : ExAt w B V d p l n s m) (hg : w.grownBy w' row) (hr : row ≠ some B) : ExAt w' B V d p l n s m := by
  have hc : ∀ k, w'.cell? ⟨B, k, none⟩ = w.cell? ⟨B, k, none⟩ := fun k => World.cell?_of_block (a := ⟨B, k, none⟩) (hg.block B h.wide.lt (Ne.symm hr))
  exact ⟨h.wide.grown hg hr, by rw [hc]; exact h.cd, by rw [hc]; exact h.cp, by rw [hc]; exact h.cl, by rw [hc]; exact h.cn, by rw [hc]; exact h.cs, by rw [hc]; exact h.cm⟩
theorem ExAt.chg (h : ExAt w B V d p l n s m) (c : Chg w w' B 0 72) (hU : WideAt w' B 0 U) : ExAt w' B U d p l n s m :=
  ⟨hU, by rw [c.cell 72 (by omega)]; exact h.cd, by rw [c.cell 73 (by omega)]; exact h.cp, by rw [c.cell 74 (by omega)]; exact h.cl, by rw [c.cell 75 (by omega)]; exact h.cn, by rw [c.cell 76 (by omega)]; exact h.cs, by rw [c.cell 77 (by omega)]; exact h.cm⟩
theorem WideAt.past {o k : Nat} (h : WideAt w B o V) (hk : o + 72 ≤ k) (v : Value) : WideAt (w.setCell ⟨B, k, none⟩ v) B o V where
  lt := by rw [Reg.size_setCell]; exact h.lt
  fr j := by simp only [World.frozen?_setCell]; exact h.fr j
  cell i hi := by rw [World.cell?_setCell_other _ _ _ _ (by intro e; injection e with _ e2; omega)]; exact h.cell i hi
theorem cell_past {k j : Nat} {v u : Value} (h : w.cell? ⟨B, j, none⟩ = some u) (hk : k ≠ j) : (w.setCell ⟨B, k, none⟩ v).cell? ⟨B, j, none⟩ = some u := by
  rw [World.cell?_setCell_other _ _ _ _ (by intro e; injection e with _ e2; omega)]; exact h
theorem cell_here {k : Nat} {v u : Value} (h : w.cell? ⟨B, k, none⟩ = some u) : (w.setCell ⟨B, k, none⟩ v).cell? ⟨B, k, none⟩ = some v := World.cell?_setCell_same _ _ _ h
theorem ExAt.setP (h : ExAt w B V d p l n s m) : ExAt (w.setCell ⟨B, 73, none⟩ (.bool b)) B V d b l n s m :=
  ⟨h.wide.past (by omega) _, cell_past h.cd (by omega), cell_here h.cp, cell_past h.cl (by omega), cell_past h.cn (by omega), cell_past h.cs (by omega), cell_past h.cm (by omega)⟩
theorem ExAt.setL (h : ExAt w B V d p l n s m) : ExAt (w.setCell ⟨B, 74, none⟩ (.bool b)) B V d p b n s m :=
  ⟨h.wide.past (by omega) _, cell_past h.cd (by omega), cell_past h.cp (by omega), cell_here h.cl, cell_past h.cn (by omega), cell_past h.cs (by omega), cell_past h.cm (by omega)⟩
theorem ExAt.setN (h : ExAt w B V d p l n s m) : ExAt (w.setCell ⟨B, 75, none⟩ (.bool b)) B V d p l b s m :=
  ⟨h.wide.past (by omega) _, cell_past h.cd (by omega), cell_past h.cp (by omega), cell_past h.cl (by omega), cell_here h.cn, cell_past h.cs (by omega), cell_past h.cm (by omega)⟩
theorem ExAt.setS (h : ExAt w B V d p l n s m) : ExAt (w.setCell ⟨B, 76, none⟩ (.bool b)) B V d p l n b m :=
  ⟨h.wide.past (by omega) _, cell_past h.cd (by omega), cell_past h.cp (by omega), cell_past h.cl (by omega), cell_past h.cn (by omega), cell_here h.cs, cell_past h.cm (by omega)⟩
theorem ExAt.setM (h : ExAt w B V d p l n s m) : ExAt (w.setCell ⟨B, 77, none⟩ (.bool b)) B V d p l n s b :=
  ⟨h.wide.past (by omega) _, cell_past h.cd (by omega), cell_past h.cp (by omega), cell_past h.cl (by omega), cell_past h.cn (by omega), cell_past h.cs (by omega), cell_here h.cm⟩
end

attribute [local go_sem] m64bits m64from
theorem signbit_any (b : Nat) (w : World) (hb : b < 2 ^ 64) : Calls Try.prog 106 #[.float .f64 b] w fun en w' => en = .returned (.bool (negB b)) ∧ w = w' := by
  obtain ⟨r, hr⟩ : ∃ r, r = negB b := ⟨_, rfl⟩
  rw [← hr]
  by_cases h1 : b < 9223372036854775808
  · have hr0 : r = false := by rw [hr]; unfold negB; exact decide_eq_false (by omega)
    subst hr0
    have hw : ¬ wrap64 (b : Int) < 0 := by unfold wrap64; omega
    clear hr
    go_enter Try.func106, Try.ntmps106
    go_wp2_with fail
    go_ret
    exact ⟨rfl, rfl⟩
  · have hr0 : r = true := by rw [hr]; unfold negB; exact decide_eq_true (by omega)
    subst hr0
    have hw : wrap64 (b : Int) < 0 := by unfold wrap64; omega
    clear hr
    go_enter Try.func106, Try.ntmps106
    go_wp2_with fail
    go_ret
    exact ⟨rfl, rfl⟩

theorem frexp_abs (b : Nat) (w : World) (hf : finB b) :
    Calls Try.prog 105 #[.float .f64 (b % 9223372036854775808 : Nat)] w fun en w' => en = .returned (.tuple #[.float .f64 (frF b), .int .i64 (frE b)]) ∧ w = w' := by
  obtain ⟨a1, a2, a3, a4⟩ := abs_fin hf
  unfold frF frE
  by_cases h0 : mantB b = 0
  · rw [if_pos h0, if_pos h0]
    have := mFrexp_zero (b % 9223372036854775808) w a1.1 (by rw [a3]; exact h0)
    rw [mant_zero.1 h0] at this ⊢
    exact this
  · rw [if_neg h0, if_neg h0]
    have := mFrexp_any (b % 9223372036854775808) w a1 (by rw [a3]; exact h0)
    rw [show lgB (b % 9223372036854775808) = lgB b by unfold lgB; rw [a3, a4]] at this
    exact this
end Go.Proofs.Ytjakjnmfndfehaa

namespace Go.Proofs.Ytjakjnmfndfehaa
open Go.RowKit Go.Pst
set_option maxRecDepth 20000
set_option linter.unusedSimpArgs false
set_option linter.unusedVariables false
attribute [local go_sem] run_fmul

/-- Powers and signs of the first k numbers. -/
def eSum (f : Nat → Nat) (d : Int) : Nat → Int
  | 0 => d
  | k + 1 => eSum f d k + (frE (f k) - 53)
def xSum (f : Nat → Nat) : Nat → Bool
  | 0 => false
  | k + 1 => xSum f k != negB (f k)
def sz (f : Nat → Nat) (j k : Nat) : Nat := if j < k then frM (f j) else 1

theorem eSum_bd {f : Nat → Nat} {d : Int} : ∀ k, (∀ j, j < k → finB (f j)) → d - 1127 * k ≤ eSum f d k ∧ eSum f d k ≤ d + 971 * k
  | 0, _ => by unfold eSum; omega
  | k + 1, h => by
    have h1 := eSum_bd (f := f) (d := d) k fun j hj => h j (by omega)
    have h2 := frE_bd (h k (by omega))
    unfold eSum; omega

def K46 : Nat := 4607
def K44 : Nat := 4400
theorem h71_two : H71 = 2 ^ K46 := by
  unfold H71
  have e : ∀ a b, 2 ^ 63 * W64 ^ a = 2 ^ b ∨ 63 + 64 * a ≠ b := fun a b => by
    by_cases h : 63 + 64 * a = b
    · left; rw [w64_two, ← Nat.pow_add, h]
    · exact .inr h
  exact (e 71 K46).resolve_right (fun h => h (by decide))
theorem small_nat {N : Nat} (h : N < 2 ^ K46) : Small (N : Int) := by
  unfold Small
  rw [h71_two]
  generalize (2 : Nat) ^ K46 = X at *
  omega
theorem pwZ_lt {M k : Nat} {q : Int} (h : M < 2 ^ k) (hq : q ≤ (K44 : Nat) - (k : Nat)) (hk : k ≤ K44) : pwZ M q < 2 ^ K46 := by
  unfold pwZ
  have h1 : 2 ^ K44 < 2 ^ K46 := Nat.pow_lt_pow_right (by omega) (by decide)
  split
  · have h2 : 2 ^ k ≤ 2 ^ K44 := Nat.pow_le_pow_right (by omega) hk
    have := Nat.div_le_self M (2 ^ (-q).toNat)
    exact Nat.lt_of_le_of_lt this (Nat.lt_of_lt_of_le h (Nat.le_of_lt (Nat.lt_of_le_of_lt h2 h1)))
  · have h2 : M * 2 ^ q.toNat < 2 ^ k * 2 ^ q.toNat := Nat.mul_lt_mul_of_pos_right h (Nat.two_pow_pos _)
    rw [← Nat.pow_add] at h2
    have h3 : 2 ^ (k + q.toNat) ≤ 2 ^ K44 := Nat.pow_le_pow_right (by omega) (by omega)
    exact Nat.lt_of_lt_of_le h2 (Nat.le_of_lt (Nat.lt_of_le_of_lt h3 h1))

theorem wide_new (w : World) (U : Nat → Nat) {g : Nat} (hg : w.heap.size = g) : WideAt (w.alloc (.cells (wcells U).toArray 82)) g 0 U := by
  subst hg
  exact ⟨by simp, fun k => frozen_of_row _ _ _ _ _ (heap_alloc_new w _), fun i hi => by
    rw [cell_of_row _ _ _ _ _ _ (heap_alloc_new w _), Nat.zero_add, List.getElem?_toArray]; exact wcells_get U hi⟩

def TermPost (B : Nat) (d : Int) (p l nn m bl : Bool) (N : Nat) (sum : Int) (w : World) (en : Ending) (w' : World) : Prop :=
  (∃ v, en = .returned v) ∧ Fr w w' B ∧ ∃ V', ExAt w' B V' d p l nn true (m || decide (N ≠ 0) || !bl) ∧ WIs V' (sum + sgn bl N)



set_option maxHeartbeats 4000000 in
theorem term_any (B c n a o : Nat) (V : Nat → Nat) (f : Nat → Nat) (d : Int) (p l nn s m : Bool) (w : World) (hE : ExAt w B V d p l nn s m) (hn : n = 1 ∨ n = 2) (ha : a < w.heap.size)
    (hA : ∀ k, k < n → w.cell? ⟨a, o + k, none⟩ = some (.float .f64 (f k))) (hf : ∀ k, k < n → finB (f k)) (hd : 1074 * (n : Int) ≤ d ∧ d ≤ 2148) (sum : Int) (hV : WIs V sum) :
    Calls Try.prog 77 #[.pointer (some ⟨B, 0, none⟩), .slice (some ⟨a, o, none⟩) n c] w (TermPost B d p l nn m (xSum f n) (pwZ (sz f 0 n * sz f 1 n) (eSum f d n)) sum w) := by
  have HE := Lib.hid hE; have HA := Lib.hid hA; have HF := Lib.hid hf; have HV := Lib.hid hV
  have cd := hE.cd
  have z := hE.wide.lt
  clear hE hA hf hV
  go_enter Try.func77, Try.ntmps77
  go_wp2_with fail
  go_loopw [5, 6, 19] (fun pw bl t wr => ∃ k : Nat, t = .int .i64 k ∧ k ≤ n ∧ pw = .int .i64 (eSum f d k) ∧ bl = .bool (xSum f k) ∧ wr = w.alloc (.cells #[.int .u64 (sz f 0 k : Nat), .int .u64 (sz f 1 k : Nat)] 111)) (fun _ _ t _ => n - (intOf t).toNat)
  case atStart => exact ⟨0, rfl, by omega, rfl, rfl, rfl⟩
  case round =>
    clear cd
    obtain ⟨k, rfl, hk, rfl, rfl, rfl⟩ := hrel
    by_cases hkn : k < n
    · obtain rfl | rfl : k = 0 ∨ k = 1 := by omega
      ·
        have hx := HF.out 0 (by omega)
        have c0 := HA.out 0 (by omega)
        rw [Nat.add_zero] at c0
        have h3 : (0 : Int) < (n : Int) := by omega
        have hbd := eSum_bd (f := f) (d := d) 0 (fun j hj => HF.out j (by omega))
        have hfe := frE_bd hx
        have hfm := frM_lt (f 0)
        have hu : ∀ w, arU .mul w (frF (f 0)) 4845873199050653696 = fl (frM (f 0)) := arU_some (frF_mul hx)
        have hno : (arD .mul (frF (f 0)) 4845873199050653696).isNone = false := arN_some (frF_mul hx)
        have hcv : ∀ w, (convert 24 80 (.float .f64 (fl (frM (f 0))))).run Try.prog w = .ok (.int .u64 ((frM (f 0) : Nat) : Int)) w := fun w => run_convert_float_int w _ _ .f64 .u64 _ _ (by kernel_rfl) Try.underlying80 (fl_u64 hfm)
        have HAB := Lib.hid fun w => mabs_any (f 0) w hx.1
        have HFR := Lib.hid fun w => frexp_abs (f 0) w hx
        have HSB := Lib.hid fun w => signbit_any (f 0) w hx.1
        have e1 : eSum f d (0 + 1) = eSum f d 0 + (frE (f 0) - 53) := rfl
        have e2 : xSum f (0 + 1) = (xSum f 0 != negB (f 0)) := rfl
        have e3 : sz f 0 (0 + 1) = frM (f 0) := rfl
        have e4 : sz f 1 (0 + 1) = 1 := rfl
        obtain ⟨pw, hpw⟩ : ∃ p, p = eSum f d 0 := ⟨_, rfl⟩
        obtain ⟨bl, hbl⟩ : ∃ p, p = xSum f 0 := ⟨_, rfl⟩
        rw [← hpw] at hbd e1 ⊢
        rw [← hbl] at e2 ⊢
        generalize frF (f 0) = F at *
        generalize frE (f 0) = E at *
        generalize frM (f 0) = M at *
        generalize negB (f 0) = g at *
        generalize f 0 = x at *
        have E1 := Lib.hid e1; have E2 := Lib.hid e2; have E3 := Lib.hid e3; have E4 := Lib.hid e4

        clear e1 e2 e3 e4 hpw hbl hx
        have hw := wIf_off
        go_wp2_with fail
        refine (HAB.out _).mono ?_
        rintro en w' ⟨rfl, rfl⟩
        go_wp2_with fail
        refine (HFR.out _).mono ?_
        rintro en w' ⟨rfl, rfl⟩
        go_wp2_with fail
        refine (HSB.out _).mono ?_
        rintro en w' ⟨rfl, rfl⟩
        go_wp2_with fail
        go_roundw
        case rel => exact ⟨0 + 1, by go_num, by omega, by rw [E1.out]; try rfl, by rw [E2.out]; try rfl, by rw [E3.out, E4.out]; try rfl⟩
        case measure => (simp [intOf] <;> omega)
      ·
        have hx := HF.out 1 (by omega)
        have c0 := HA.out 1 (by omega)
        skip
        have h3 : (1 : Int) < (n : Int) := by omega
        have hbd := eSum_bd (f := f) (d := d) 1 (fun j hj => HF.out j (by omega))
        have hfe := frE_bd hx
        have hfm := frM_lt (f 1)
        have hu : ∀ w, arU .mul w (frF (f 1)) 4845873199050653696 = fl (frM (f 1)) := arU_some (frF_mul hx)
        have hno : (arD .mul (frF (f 1)) 4845873199050653696).isNone = false := arN_some (frF_mul hx)
        have hcv : ∀ w, (convert 24 80 (.float .f64 (fl (frM (f 1))))).run Try.prog w = .ok (.int .u64 ((frM (f 1) : Nat) : Int)) w := fun w => run_convert_float_int w _ _ .f64 .u64 _ _ (by kernel_rfl) Try.underlying80 (fl_u64 hfm)
        have HAB := Lib.hid fun w => mabs_any (f 1) w hx.1
        have HFR := Lib.hid fun w => frexp_abs (f 1) w hx
        have HSB := Lib.hid fun w => signbit_any (f 1) w hx.1
        have e1 : eSum f d (1 + 1) = eSum f d 1 + (frE (f 1) - 53) := rfl
        have e2 : xSum f (1 + 1) = (xSum f 1 != negB (f 1)) := rfl
        have e3 : sz f 0 (1 + 1) = sz f 0 1 := rfl
        have e4 : sz f 1 (1 + 1) = frM (f 1) := rfl
        obtain ⟨pw, hpw⟩ : ∃ p, p = eSum f d 1 := ⟨_, rfl⟩
        obtain ⟨bl, hbl⟩ : ∃ p, p = xSum f 1 := ⟨_, rfl⟩
        rw [← hpw] at hbd e1 ⊢
        rw [← hbl] at e2 ⊢
        generalize frF (f 1) = F at *
        generalize frE (f 1) = E at *
        generalize frM (f 1) = M at *
        generalize negB (f 1) = g at *
        generalize f 1 = x at *
        have E1 := Lib.hid e1; have E2 := Lib.hid e2; have E3 := Lib.hid e3; have E4 := Lib.hid e4

        clear e1 e2 e3 e4 hpw hbl hx
        have hw := wIf_off
        go_wp2_with fail
        refine (HAB.out _).mono ?_
        rintro en w' ⟨rfl, rfl⟩
        go_wp2_with fail
        refine (HFR.out _).mono ?_
        rintro en w' ⟨rfl, rfl⟩
        go_wp2_with fail
        refine (HSB.out _).mono ?_
        rintro en w' ⟨rfl, rfl⟩
        go_wp2_with fail
        go_roundw
        case rel => exact ⟨1 + 1, by go_num, by omega, by rw [E1.out]; try rfl, by rw [E2.out]; try rfl, by rw [E3.out, E4.out]; try rfl⟩
        case measure => (simp [intOf] <;> omega)
    · obtain rfl : k = n := by omega
      have hs0 : sz f 0 k < 2 ^ 53 := by unfold sz; split; exact frM_lt _; decide
      have hs1 : sz f 1 k < 2 ^ 53 := by unfold sz; split; exact frM_lt _; decide
      have hbd := eSum_bd (f := f) (d := d) k HF.out
      have hNS := small_nat (pwZ_lt (M := sz f 0 k * sz f 1 k) (k := 106) (q := eSum f d k) (by
        have := Nat.mul_lt_mul_of_lt_of_le hs0 (Nat.le_of_lt hs1) (by decide)
        rw [← Nat.pow_add] at this; exact this) (by unfold K44; omega) (by decide))
      have HP := Lib.hid fun w => product_any (sz f 0 k) (sz f 1 k) (eSum f d k) w (by unfold W64; omega) (by unfold W64; omega) (by omega) (by omega)
      obtain ⟨N, hN⟩ : ∃ N, N = pwZ (sz f 0 k * sz f 1 k) (eSum f d k) := ⟨_, rfl⟩
      rw [← hN] at HP hNS
      have HN := Lib.hid hN
      obtain ⟨s0, g0⟩ : ∃ x, x = sz f 0 k := ⟨_, rfl⟩
      obtain ⟨s1, g1⟩ : ∃ x, x = sz f 1 k := ⟨_, rfl⟩
      obtain ⟨q, g2⟩ : ∃ x, x = eSum f d k := ⟨_, rfl⟩
      obtain ⟨bl, g3⟩ : ∃ x, x = xSum f k := ⟨_, rfl⟩
      rw [← g0, ← g1, ← g2] at HP
      rw [← g0, ← g1, ← g2, ← g3]
      have HBL := Lib.hid g3
      have HNS := Lib.hid hNS
      clear hN hs0 hs1 g0 g1 g2 g3 hbd hNS
      go_wp2_with fail
      refine (HP.out _).mono ?_
      rintro en w1 hpp
      obtain ⟨rfl, hb1⟩ := hpp
      have hal := (Below.refl w.heap.size w).alloc (Nat.le_refl _) (.cells #[.int .u64 (s0 : Nat), .int .u64 (s1 : Nat)] 111)
      have E1 := Lib.hid ((HE.out.below hal).below hb1)
      have F1 := Lib.hid (((Fr.refl w B).after hal (Nat.le_refl _)).after hb1 (by simp))
      have z1 : w.heap.size < w1.heap.size := by have := hb1.size; simp at this; omega
      have hBn : B < w1.heap.size := by omega
      have hne : B ≠ w1.heap.size := by omega
      have c6 := E1.out.cs
      have c7 := E1.out.cm
      have f6 := E1.out.wide.fr 76
      have f7 := E1.out.wide.fr 77
      clear hal hb1 HP
      cases m
      · have W2 := Lib.hid (wide_new (w1.setCell ⟨B, 76, none⟩ (.bool true)) (natW N) (Reg.size_setCell _ _ _))
        go_wp2_with (with_reducible refine wpList_store_row rfl 82 _ _ rfl w1.heap.size (wcells (natW N)).toArray rfl rfl 82 Try.zeroCells82 (heap_alloc_new _ _) (info72' _) (by rw [wcells_zero]; simp [wcells]) (all_oneCell_toArray (wcells_one _)) ?_
                     rw [World.setRow_alloc_new])
        refine (sign_any w1.heap.size 0 (natW N) N _ W2.out natW_is HNS.out).mono ?_
        rintro en w2 ⟨rfl, rfl⟩
        clear W2
        by_cases hN0 : N = 0
        · have hsg : sgnI (N : Int) = 0 := by rw [hN0]; rfl
          have HZ := Lib.hid hN0
          rw [hsg]
          clear hN0 hsg
          cases bl
          ·
            have E3 := Lib.hid ((E1.out.setS (b := true)).setM (b := true))
            have F3 := Lib.hid ((F1.out.setB 76 (.bool true)).setB 77 (.bool true))
            have hz3 : ((w1.setCell ⟨B, 76, none⟩ (.bool true)).setCell ⟨B, 77, none⟩ (.bool true)).heap.size = w1.heap.size := by rw [Reg.size_setCell, Reg.size_setCell]
            have hal3 := (Below.refl _ ((w1.setCell ⟨B, 76, none⟩ (.bool true)).setCell ⟨B, 77, none⟩ (.bool true))).alloc (Nat.le_refl _) (.cells (wcells (natW N)).toArray 82)
            have E4 := Lib.hid (E3.out.below hal3)
            have F4 := Lib.hid (F3.out.after hal3 (by rw [hz3]; omega))
            have W4 := Lib.hid (wide_new ((w1.setCell ⟨B, 76, none⟩ (.bool true)).setCell ⟨B, 77, none⟩ (.bool true)) (natW N) hz3)
            clear hal3 hz3 E3 F3
            have WA := Lib.hid (add_any B 0 w1.heap.size 0 V (natW N) _ E4.out.wide W4.out hne HV.out.1 natW_is.1)
            go_wp2_with (with_reducible refine wpList_store_row rfl 82 _ _ rfl w1.heap.size (wcells (natW N)).toArray rfl rfl 82 Try.zeroCells82 (heap_alloc_new _ _) (info72' _) (by rw [wcells_zero]; simp [wcells]) (all_oneCell_toArray (wcells_one _)) ?_; rw [World.setRow_alloc_new])
            refine WA.out.mono ?_
            rintro en w5 ⟨⟨v5, rfl⟩, W5, C5⟩
            have E5 := Lib.hid (E4.out.chg C5 W5)
            have F5 := Lib.hid (F4.out.chgB C5)
            clear W5 C5 WA
            go_wp2_with fail
            go_end0
            refine ⟨⟨_, rfl⟩, F5.out, addW V (natW N), ?_, ?_⟩
            rotate_left
            · rw [← HBL.out, ← HN.out]; exact HV.out.add natW_is
            · rw [← HBL.out, ← HN.out]
              have e5 := E5.out
              have hz := HZ.out
              simpa [hz] using e5
          ·
            have E3 := Lib.hid ((E1.out.setS (b := true)).setM (b := false))
            have F3 := Lib.hid ((F1.out.setB 76 (.bool true)).setB 77 (.bool false))
            have hz3 : ((w1.setCell ⟨B, 76, none⟩ (.bool true)).setCell ⟨B, 77, none⟩ (.bool false)).heap.size = w1.heap.size := by rw [Reg.size_setCell, Reg.size_setCell]
            have hal3 := (Below.refl _ ((w1.setCell ⟨B, 76, none⟩ (.bool true)).setCell ⟨B, 77, none⟩ (.bool false))).alloc (Nat.le_refl _) (.cells (wcells (natW N)).toArray 82)
            have E4 := Lib.hid (E3.out.below hal3)
            have F4 := Lib.hid (F3.out.after hal3 (by rw [hz3]; omega))
            have W4 := Lib.hid (wide_new ((w1.setCell ⟨B, 76, none⟩ (.bool true)).setCell ⟨B, 77, none⟩ (.bool false)) (natW N) hz3)
            clear hal3 hz3 E3 F3
            have NA := Lib.hid (negate_any w1.heap.size 0 (natW N) _ W4.out (natW_is (N := N)).1)
            go_wp2_with (with_reducible refine wpList_store_row rfl 82 _ _ rfl w1.heap.size (wcells (natW N)).toArray rfl rfl 82 Try.zeroCells82 (heap_alloc_new _ _) (info72' _) (by rw [wcells_zero]; simp [wcells]) (all_oneCell_toArray (wcells_one _)) ?_; rw [World.setRow_alloc_new])
            refine NA.out.mono ?_
            rintro en w4 ⟨⟨v4, rfl⟩, W5, C5⟩
            have W6 := Lib.hid W5
            have E6 := Lib.hid (E4.out.grown C5.g (fun e => hne (by injection e with e; exact e.symm)))
            have F6 := Lib.hid (F4.out.chgN C5 (Nat.le_of_lt z1))
            clear W5 C5 NA E4 F4 W4
            have WA := Lib.hid (add_any B 0 w1.heap.size 0 V (negW (natW N)) _ E6.out.wide W6.out hne HV.out.1 (natW_is (N := N)).neg.1)
            go_wp2_with (with_reducible refine wpList_store_row rfl 82 _ _ rfl w1.heap.size (wcells (natW N)).toArray rfl rfl 82 Try.zeroCells82 (heap_alloc_new _ _) (info72' _) (by rw [wcells_zero]; simp [wcells]) (all_oneCell_toArray (wcells_one _)) ?_; rw [World.setRow_alloc_new])
            refine WA.out.mono ?_
            rintro en w5 ⟨⟨v5, rfl⟩, W5, C5⟩
            have E5 := Lib.hid (E6.out.chg C5 W5)
            have F5 := Lib.hid (F6.out.chgB C5)
            clear W5 C5 WA
            go_wp2_with fail
            go_end0
            refine ⟨⟨_, rfl⟩, F5.out, addW V (negW (natW N)), ?_, ?_⟩
            rotate_left
            · rw [← HBL.out, ← HN.out]; exact HV.out.add (natW_is (N := N)).neg
            · rw [← HBL.out, ← HN.out]
              have e5 := E5.out
              have hz := HZ.out
              simpa [hz] using e5
        · have hsg : sgnI (N : Int) = 1 := by unfold sgnI; rw [if_neg (by omega), if_neg (by omega)]
          have HZ := Lib.hid hN0
          rw [hsg]
          clear hN0 hsg
          cases bl
          ·
            have E3 := Lib.hid ((E1.out.setS (b := true)).setM (b := true))
            have F3 := Lib.hid ((F1.out.setB 76 (.bool true)).setB 77 (.bool true))
            have hz3 : ((w1.setCell ⟨B, 76, none⟩ (.bool true)).setCell ⟨B, 77, none⟩ (.bool true)).heap.size = w1.heap.size := by rw [Reg.size_setCell, Reg.size_setCell]
            have hal3 := (Below.refl _ ((w1.setCell ⟨B, 76, none⟩ (.bool true)).setCell ⟨B, 77, none⟩ (.bool true))).alloc (Nat.le_refl _) (.cells (wcells (natW N)).toArray 82)
            have E4 := Lib.hid (E3.out.below hal3)
            have F4 := Lib.hid (F3.out.after hal3 (by rw [hz3]; omega))
            have W4 := Lib.hid (wide_new ((w1.setCell ⟨B, 76, none⟩ (.bool true)).setCell ⟨B, 77, none⟩ (.bool true)) (natW N) hz3)
            clear hal3 hz3 E3 F3
            have WA := Lib.hid (add_any B 0 w1.heap.size 0 V (natW N) _ E4.out.wide W4.out hne HV.out.1 natW_is.1)
            go_wp2_with (with_reducible refine wpList_store_row rfl 82 _ _ rfl w1.heap.size (wcells (natW N)).toArray rfl rfl 82 Try.zeroCells82 (heap_alloc_new _ _) (info72' _) (by rw [wcells_zero]; simp [wcells]) (all_oneCell_toArray (wcells_one _)) ?_; rw [World.setRow_alloc_new])
            refine WA.out.mono ?_
            rintro en w5 ⟨⟨v5, rfl⟩, W5, C5⟩
            have E5 := Lib.hid (E4.out.chg C5 W5)
            have F5 := Lib.hid (F4.out.chgB C5)
            clear W5 C5 WA
            go_wp2_with fail
            go_end0
            refine ⟨⟨_, rfl⟩, F5.out, addW V (natW N), ?_, ?_⟩
            rotate_left
            · rw [← HBL.out, ← HN.out]; exact HV.out.add natW_is
            · rw [← HBL.out, ← HN.out]
              have e5 := E5.out
              have hz := HZ.out
              simpa [hz] using e5
          ·
            have E3 := Lib.hid ((E1.out.setS (b := true)).setM (b := true))
            have F3 := Lib.hid ((F1.out.setB 76 (.bool true)).setB 77 (.bool true))
            have hz3 : ((w1.setCell ⟨B, 76, none⟩ (.bool true)).setCell ⟨B, 77, none⟩ (.bool true)).heap.size = w1.heap.size := by rw [Reg.size_setCell, Reg.size_setCell]
            have hal3 := (Below.refl _ ((w1.setCell ⟨B, 76, none⟩ (.bool true)).setCell ⟨B, 77, none⟩ (.bool true))).alloc (Nat.le_refl _) (.cells (wcells (natW N)).toArray 82)
            have E4 := Lib.hid (E3.out.below hal3)
            have F4 := Lib.hid (F3.out.after hal3 (by rw [hz3]; omega))
            have W4 := Lib.hid (wide_new ((w1.setCell ⟨B, 76, none⟩ (.bool true)).setCell ⟨B, 77, none⟩ (.bool true)) (natW N) hz3)
            clear hal3 hz3 E3 F3
            have NA := Lib.hid (negate_any w1.heap.size 0 (natW N) _ W4.out (natW_is (N := N)).1)
            go_wp2_with (with_reducible refine wpList_store_row rfl 82 _ _ rfl w1.heap.size (wcells (natW N)).toArray rfl rfl 82 Try.zeroCells82 (heap_alloc_new _ _) (info72' _) (by rw [wcells_zero]; simp [wcells]) (all_oneCell_toArray (wcells_one _)) ?_; rw [World.setRow_alloc_new])
            refine NA.out.mono ?_
            rintro en w4 ⟨⟨v4, rfl⟩, W5, C5⟩
            have W6 := Lib.hid W5
            have E6 := Lib.hid (E4.out.grown C5.g (fun e => hne (by injection e with e; exact e.symm)))
            have F6 := Lib.hid (F4.out.chgN C5 (Nat.le_of_lt z1))
            clear W5 C5 NA E4 F4 W4
            have WA := Lib.hid (add_any B 0 w1.heap.size 0 V (negW (natW N)) _ E6.out.wide W6.out hne HV.out.1 (natW_is (N := N)).neg.1)
            go_wp2_with (with_reducible refine wpList_store_row rfl 82 _ _ rfl w1.heap.size (wcells (natW N)).toArray rfl rfl 82 Try.zeroCells82 (heap_alloc_new _ _) (info72' _) (by rw [wcells_zero]; simp [wcells]) (all_oneCell_toArray (wcells_one _)) ?_; rw [World.setRow_alloc_new])
            refine WA.out.mono ?_
            rintro en w5 ⟨⟨v5, rfl⟩, W5, C5⟩
            have E5 := Lib.hid (E6.out.chg C5 W5)
            have F5 := Lib.hid (F6.out.chgB C5)
            clear W5 C5 WA
            go_wp2_with fail
            go_end0
            refine ⟨⟨_, rfl⟩, F5.out, addW V (negW (natW N)), ?_, ?_⟩
            rotate_left
            · rw [← HBL.out, ← HN.out]; exact HV.out.add (natW_is (N := N)).neg
            · rw [← HBL.out, ← HN.out]
              have e5 := E5.out
              have hz := HZ.out
              simpa [hz] using e5
      · have HZ : Hid True := Lib.hid trivial
        cases bl
        ·
          skip
          have E3 := Lib.hid ((E1.out.setS (b := true)).setM (b := true))
          have F3 := Lib.hid ((F1.out.setB 76 (.bool true)).setB 77 (.bool true))
          have hz3 : ((w1.setCell ⟨B, 76, none⟩ (.bool true)).setCell ⟨B, 77, none⟩ (.bool true)).heap.size = w1.heap.size := by rw [Reg.size_setCell, Reg.size_setCell]
          have hal3 := (Below.refl _ ((w1.setCell ⟨B, 76, none⟩ (.bool true)).setCell ⟨B, 77, none⟩ (.bool true))).alloc (Nat.le_refl _) (.cells (wcells (natW N)).toArray 82)
          have E4 := Lib.hid (E3.out.below hal3)
          have F4 := Lib.hid (F3.out.after hal3 (by rw [hz3]; omega))
          have W4 := Lib.hid (wide_new ((w1.setCell ⟨B, 76, none⟩ (.bool true)).setCell ⟨B, 77, none⟩ (.bool true)) (natW N) hz3)
          clear hal3 hz3 E3 F3
          have WA := Lib.hid (add_any B 0 w1.heap.size 0 V (natW N) _ E4.out.wide W4.out hne HV.out.1 natW_is.1)
          go_wp2_with (with_reducible refine wpList_store_row rfl 82 _ _ rfl w1.heap.size (wcells (natW N)).toArray rfl rfl 82 Try.zeroCells82 (heap_alloc_new _ _) (info72' _) (by rw [wcells_zero]; simp [wcells]) (all_oneCell_toArray (wcells_one _)) ?_; rw [World.setRow_alloc_new])
          refine WA.out.mono ?_
          rintro en w5 ⟨⟨v5, rfl⟩, W5, C5⟩
          have E5 := Lib.hid (E4.out.chg C5 W5)
          have F5 := Lib.hid (F4.out.chgB C5)
          clear W5 C5 WA
          go_wp2_with fail
          go_end0
          refine ⟨⟨_, rfl⟩, F5.out, addW V (natW N), ?_, ?_⟩
          rotate_left
          · rw [← HBL.out, ← HN.out]; exact HV.out.add natW_is
          · rw [← HBL.out, ← HN.out]
            have e5 := E5.out
            have hz := HZ.out
            simpa [hz] using e5
        ·
          skip
          have E3 := Lib.hid ((E1.out.setS (b := true)).setM (b := true))
          have F3 := Lib.hid ((F1.out.setB 76 (.bool true)).setB 77 (.bool true))
          have hz3 : ((w1.setCell ⟨B, 76, none⟩ (.bool true)).setCell ⟨B, 77, none⟩ (.bool true)).heap.size = w1.heap.size := by rw [Reg.size_setCell, Reg.size_setCell]
          have hal3 := (Below.refl _ ((w1.setCell ⟨B, 76, none⟩ (.bool true)).setCell ⟨B, 77, none⟩ (.bool true))).alloc (Nat.le_refl _) (.cells (wcells (natW N)).toArray 82)
          have E4 := Lib.hid (E3.out.below hal3)
          have F4 := Lib.hid (F3.out.after hal3 (by rw [hz3]; omega))
          have W4 := Lib.hid (wide_new ((w1.setCell ⟨B, 76, none⟩ (.bool true)).setCell ⟨B, 77, none⟩ (.bool true)) (natW N) hz3)
          clear hal3 hz3 E3 F3
          have NA := Lib.hid (negate_any w1.heap.size 0 (natW N) _ W4.out (natW_is (N := N)).1)
          go_wp2_with (with_reducible refine wpList_store_row rfl 82 _ _ rfl w1.heap.size (wcells (natW N)).toArray rfl rfl 82 Try.zeroCells82 (heap_alloc_new _ _) (info72' _) (by rw [wcells_zero]; simp [wcells]) (all_oneCell_toArray (wcells_one _)) ?_; rw [World.setRow_alloc_new])
          refine NA.out.mono ?_
          rintro en w4 ⟨⟨v4, rfl⟩, W5, C5⟩
          have W6 := Lib.hid W5
          have E6 := Lib.hid (E4.out.grown C5.g (fun e => hne (by injection e with e; exact e.symm)))
          have F6 := Lib.hid (F4.out.chgN C5 (Nat.le_of_lt z1))
          clear W5 C5 NA E4 F4 W4
          have WA := Lib.hid (add_any B 0 w1.heap.size 0 V (negW (natW N)) _ E6.out.wide W6.out hne HV.out.1 (natW_is (N := N)).neg.1)
          go_wp2_with (with_reducible refine wpList_store_row rfl 82 _ _ rfl w1.heap.size (wcells (natW N)).toArray rfl rfl 82 Try.zeroCells82 (heap_alloc_new _ _) (info72' _) (by rw [wcells_zero]; simp [wcells]) (all_oneCell_toArray (wcells_one _)) ?_; rw [World.setRow_alloc_new])
          refine WA.out.mono ?_
          rintro en w5 ⟨⟨v5, rfl⟩, W5, C5⟩
          have E5 := Lib.hid (E6.out.chg C5 W5)
          have F5 := Lib.hid (F6.out.chgB C5)
          clear W5 C5 WA
          go_wp2_with fail
          go_end0
          refine ⟨⟨_, rfl⟩, F5.out, addW V (negW (natW N)), ?_, ?_⟩
          rotate_left
          · rw [← HBL.out, ← HN.out]; exact HV.out.add (natW_is (N := N)).neg
          · rw [← HBL.out, ← HN.out]
            have e5 := E5.out
            have hz := HZ.out
            simpa [hz] using e5
end Go.Proofs.Ytjakjnmfndfehaa

namespace Go.Pst
open Go Ieee
set_option linter.unusedVariables false
set_option linter.unusedSimpArgs false

/-- What is kept is rounded no more. -/
theorem rnd_kept {f e M : Nat} {E : Int} (h : M ≠ 0) (hk : 0 ≤ kap f e M E) : rndN f e M E = rndN f e (rne M (kap f e M E).toNat) (E + kap f e M E) := by
  obtain ⟨k1, k2, k3⟩ := kept_facts f e M E h
  have hkn : keptN f e M E = rne M (kap f e M E).toNat := by unfold keptN; rw [if_pos hk]
  have hL : rndN f e M E = min ((E + kap f e M E - lst f e).toNat * 2 ^ f + keptN f e M E) ((2 ^ e - 1) * 2 ^ f) := by unfold rndN; rw [if_neg h]
  rw [hL, ← hkn]
  obtain ⟨n, hn⟩ : ∃ n, n = keptN f e M E := ⟨_, rfl⟩
  obtain ⟨x, hx⟩ : ∃ x, x = E + kap f e M E := ⟨_, rfl⟩
  rw [← hn, ← hx] at k2
  rw [← hn] at k1
  rw [← hx] at k3
  rw [← hn, ← hx]
  have hp := Nat.two_pow_pos f
  clear hL hkn hn hx hk h
  unfold rndN
  by_cases h0 : n = 0
  · have h1 := k2 (by omega)
    rw [if_pos h0, h0, h1, Int.sub_self]
    simp
  · rw [if_neg h0]
    have hkv : kap f e n x = max ((n.log2 : Int) - f) (lst f e - x) := rfl
    by_cases h1 : n < 2 ^ f
    · have h2 := k2 h1
      have h3 : n.log2 < f := (Nat.log2_lt h0).2 h1
      have h4 : kap f e n x = 0 := by rw [hkv]; omega
      have h5 : keptN f e n x = n := by unfold keptN; rw [h4, if_pos (Int.le_refl _)]; exact rne_zero n
      rw [h5, h4, Int.add_zero]
    · by_cases h6 : n < 2 ^ (f + 1)
      · have h3 : n.log2 = f := log2_is (by omega) h6
        have h4 : kap f e n x = 0 := by rw [hkv, h3]; omega
        have h5 : keptN f e n x = n := by unfold keptN; rw [h4, if_pos (Int.le_refl _)]; exact rne_zero n
        rw [h5, h4, Int.add_zero]
      · have h7 : n = 2 ^ (f + 1) := by omega
        have h3 : n.log2 = f + 1 := by rw [h7]; exact Nat.log2_two_pow
        have h4 : kap f e n x = 1 := by rw [hkv, h3]; omega
        have h5 : keptN f e n x = 2 ^ f := by
          unfold keptN
          rw [h4, if_pos (by omega), h7]
          unfold rne
          rw [show (1 : Int).toNat = 1 from rfl, Nat.pow_succ, Nat.pow_one, Nat.mul_div_cancel _ (by omega), Nat.mul_mod_left, if_neg (by omega)]
          rfl
        rw [h5, h4, show x + 1 - lst f e = (x - lst f e) + 1 by omega]
        have : ((x - lst f e) + 1).toNat = (x - lst f e).toNat + 1 := by omega
        rw [this, Nat.add_mul, Nat.one_mul, h7, Nat.pow_succ]
        congr 1; omega

def K75 : Nat := 1075
theorem pow_same {a b c d : Nat} (h : a + b = c + d) : 2 ^ a * 2 ^ b = 2 ^ c * 2 ^ d := by rw [← Nat.pow_add, ← Nat.pow_add, h]
theorem fl_u53 {n : Nat} (h : n ≤ 2 ^ 53) : finB (fl n) ∧ negB (fl n) = false ∧ mantB (fl n) * 2 ^ placeB (fl n) = n * 2 ^ K74 := by
  by_cases h1 : n < 2 ^ 53
  · obtain ⟨f1, f2, f3⟩ := fl_fin h1
    refine ⟨f1, f2, ?_⟩
    rw [valZ_eq, f2] at f3
    unfold sgn at f3
    rw [if_neg Bool.false_ne_true] at f3
    exact Int.ofNat.inj f3
  · obtain rfl : n = 2 ^ 53 := by omega
    have e : fl (2 ^ 53) = 1076 * 4503599627370496 := by decide +kernel
    obtain ⟨f1, f2, f3, f4⟩ := fin_pow 1076 (by omega) (by omega)
    rw [e]
    refine ⟨f1, f2, ?_⟩
    rw [f3, show placeB (1076 * 4503599627370496) = K75 from f4, show (4503599627370496 : Nat) = 2 ^ 52 from rfl]
    exact pow_same (show 52 + K75 = 53 + K74 by decide)
/-- A small whole number scaled. -/
theorem ldB_fl {n : Nat} (h : n ≤ 2 ^ 53) (k : Int) : ldB (fl n) k = rndN 52 11 n k := by
  obtain ⟨f1, f2, f3⟩ := fl_u53 h
  unfold ldB
  rw [f2]
  have e1 := rnd_shift 52 11 (mantB (fl n)) (placeB (fl n)) (-1074 + (placeB (fl n) : Nat) + k)
  have e2 := rnd_shift 52 11 n K74 k
  rw [f3] at e1
  have e3 : -1074 + ((placeB (fl n) : Nat) : Int) + k - ((placeB (fl n) : Nat) : Int) = k - ((K74 : Nat) : Int) := by
    have : ((K74 : Nat) : Int) = 1074 := rfl
    omega
  rw [e3, e2] at e1
  unfold wrd
  rw [if_neg Bool.false_ne_true]
  exact e1.symm

/-- A sum over a power of two, rounded once. -/
def fvN (s d : Int) : Nat := wrd (decide (s < 0)) (rndN 52 11 s.natAbs (-d))
def dropN (N : Nat) (d : Int) : Nat := (max (max ((lenN N : Int) - 1 - d - 52) (-1074) + d) 0).toNat
theorem drop_rnd (N : Nat) (d : Int) : rndN 52 11 N (-d) = rndN 52 11 (rne N (dropN N d)) ((dropN N d : Nat) - d) ∧ (N ≠ 0 → rne N (dropN N d) ≤ 2 ^ 53) ∧ (N / 2 ^ dropN N d < 2 ^ 53) := by
  have hl : lst 52 11 = -1074 := by decide
  by_cases h0 : N = 0
  · subst h0
    have e : rne 0 (dropN 0 d) = 0 := by unfold rne; simp
    rw [e]
    refine ⟨?_, fun h => absurd rfl h, by simp⟩
    unfold rndN; rw [if_pos rfl, if_pos rfl]
  · have hlen : (lenN N : Int) = N.log2 + 1 := by unfold lenN; rw [if_neg h0]; rfl
    have hk : kap 52 11 N (-d) = max ((N.log2 : Int) - 52) (-1074 - -d) := by unfold kap; rw [hl]; rfl
    have hdr : (dropN N d : Int) = max (kap 52 11 N (-d)) 0 := by unfold dropN; rw [hk, hlen]; omega
    have hlt := Nat.lt_log2_self (n := N)
    have hq : N / 2 ^ dropN N d < 2 ^ 53 := by
      have : N.log2 + 1 ≤ 53 + dropN N d := by omega
      refine Nat.div_lt_of_lt_mul ?_
      rw [← Nat.pow_add]
      exact Nat.lt_of_lt_of_le hlt (Nat.pow_le_pow_right (by omega) (by omega))
    refine ⟨?_, fun _ => ?_, hq⟩
    · by_cases h1 : 0 ≤ kap 52 11 N (-d)
      · rw [rnd_kept h0 h1]
        have e : dropN N d = (kap 52 11 N (-d)).toNat := by omega
        rw [e]; congr 1; omega
      · have e : dropN N d = 0 := by omega
        rw [e, rne_zero]; congr 1; omega
    · unfold rne; split <;> omega
end Go.Pst
namespace Go.Pst
open Go Ieee
set_option linter.unusedVariables false
set_option linter.unusedSimpArgs false
theorem rne_bits (N E : Nat) : rne N (E + 1) = N / 2 ^ (E + 1) + (if N / 2 ^ E % 2 = 1 ∧ (N / 2 ^ (E + 1) % 2 = 1 ∨ N % 2 ^ E ≠ 0) then 1 else 0) := by
  unfold rne
  have e : N % 2 ^ (E + 1) = N % 2 ^ E + 2 ^ E * (N / 2 ^ E % 2) := Nat.mod_pow_succ
  have hp := Nat.two_pow_pos E
  have hm : N % 2 ^ E < 2 ^ E := Nat.mod_lt _ hp
  have hq : 2 ^ (E + 1) = 2 * 2 ^ E := by rw [Nat.pow_succ, Nat.mul_comm]
  congr 1
  rcases Nat.mod_two_eq_zero_or_one (N / 2 ^ E) with h | h
  · rw [h, Nat.mul_zero, Nat.add_zero] at e
    rw [if_neg (by rw [e, hq]; omega), if_neg (by omega)]
  · rw [h, Nat.mul_one] at e
    rw [e, h]
    generalize N / 2 ^ (E + 1) = q at *
    rw [hq]
    generalize 2 ^ E = P at *
    generalize N % P = r at *
    by_cases hc : q % 2 = 1 ∨ r ≠ 0
    · rw [if_pos (by omega), if_pos ⟨rfl, hc⟩]
    · rw [if_neg (by omega), if_neg (by omega)]
theorem lenN_lt {N k : Nat} (h : N < 2 ^ k) : lenN N ≤ k := by
  unfold lenN
  split
  · omega
  · have := (Nat.log2_lt ‹_›).2 h; omega
theorem len_div (N : Nat) : N / 2 ^ lenN N = 0 := by
  unfold lenN
  split
  · rename_i h; rw [h, Nat.zero_div]
  · exact Nat.div_eq_of_lt Nat.lt_log2_self
theorem fl_int (n : Nat) : floatOfInt .f64 (n : Int) = fl n := by
  have h := near_fl (n : Int)
  have e : floatOfInt .f64 (n : Int) = FloatKind.f64.nearest (n : Int) := rfl
  rw [e, h, decide_eq_false (by omega), Int.natAbs_natCast]
  unfold wrd
  rw [if_neg (by simp)]
theorem div_shift (N k : Nat) : N / 2 ^ k = 2 * (N / 2 ^ (k + 1)) + N / 2 ^ k % 2 := by
  rw [Nat.pow_succ, ← Nat.div_div_eq_div_mul]; omega
end Go.Pst

namespace Go.Proofs.Ytjakjnmfndfehaa
open Go.RowKit Go.Pst
set_option maxRecDepth 20000
set_option linter.unusedSimpArgs false
set_option linter.unusedVariables false

/-- The other sign. -/
def flipF (b : Nat) : Nat := b ^^^ 9223372036854775808
theorem flipF_low {b : Nat} (h : b < 9223372036854775808) : flipF b = wrd true b := by
  unfold flipF wrd
  have h2 := Nat.two_pow_add_eq_or_of_lt (i := 63) (b := b) (by omega) 1
  have h3 : b ^^^ 9223372036854775808 = 9223372036854775808 ||| b := by
    apply Nat.eq_of_testBit_eq
    intro i
    rw [Nat.testBit_xor, Nat.testBit_or, show (9223372036854775808 : Nat) = 2 ^ 63 from rfl, Nat.testBit_two_pow]
    by_cases hi : 63 = i
    · subst hi
      rw [Nat.testBit_lt_two_pow (show b < 2 ^ 63 by omega)]; simp
    · simp [hi]
  rw [h3, if_pos rfl]
  rw [show (2 : Nat) ^ 63 * 1 = 9223372036854775808 from rfl] at h2
  exact h2.symm
theorem run_fneg (P : Program) (b : Nat) (w : World) : Sem.run P (Op.unary .neg (.float .f64 b)) w = .ok (.float .f64 (flipF b)) w := rfl
attribute [local go_sem] run_fneg

theorem or_bit {n b : Nat} (hn : n < 2 ^ 62) (hb : b < 2) : bits .or .u64 ((n : Int) * 2) (b : Int) = ((2 * n + b : Nat) : Int) := by
  have h := or64 (a := n * 2) (b := b) (by omega) (by omega)
  rw [show ((n : Int) * 2) = ((n * 2 : Nat) : Int) by omega, h]
  have h2 := Nat.two_pow_add_eq_or_of_lt (i := 1) (b := b) (by omega) n
  rw [Nat.pow_one, Nat.mul_comm 2 n] at h2
  rw [← h2, Nat.mul_comm]



set_option maxHeartbeats 8000000 in
theorem float_any (V : Nat → Nat) (s d : Int) (w : World) (hV : WIs V s) (hs : s.natAbs < 2 ^ K46) (hd : 1074 ≤ d ∧ d ≤ 2148) :
    Calls Try.prog 111 #[.agg (wcells V).toArray, .int .i64 d] w fun en w' => en = .returned (.float .f64 (fvN s d)) ∧ Below w.heap.size w w' := by
  have hs' : s.natAbs < H71 := by rw [h71_two]; exact hs
  have hsm : Small s := ⟨by omega, by omega⟩
  have HS := Lib.hid fun (w : World) h => sign_any w.heap.size 0 V s (w.alloc (.cells (wcells V).toArray 82)) h hV hsm
  have W1 := Lib.hid (wide_new w V rfl)
  have z : w.heap.size < (w.alloc (.cells (wcells V).toArray 82)).heap.size := by simp
  have B1 := Lib.hid ((Below.refl w.heap.size w).alloc (Nat.le_refl _) (.cells (wcells V).toArray 82))
  have HV := Lib.hid hV
  obtain ⟨hrd, -, hdq⟩ := drop_rnd s.natAbs d
  have hrle : rne s.natAbs (dropN s.natAbs d) ≤ 2 ^ 53 := by
    by_cases h0 : s.natAbs = 0
    · rw [h0]; unfold rne; simp
    · exact (drop_rnd s.natAbs d).2.1 h0
  have hN46 := hs
  have hab : s.natAbs = (s.natAbs : Nat) := rfl
  clear hV hs
  by_cases hneg : s < 0
  · have hwv : wv (negW V) 72 = s.natAbs := by
      rw [HV.out.neg.nat ⟨by omega, by omega⟩ (by omega)]; omega
    obtain ⟨r, hr⟩ : ∃ r, r = rndN 52 11 s.natAbs (-d) := ⟨_, rfl⟩
    have hrr : ldB (fl (rne s.natAbs (dropN s.natAbs d))) ((dropN s.natAbs d : Nat) - d) = r := by
      rw [ldB_fl hrle, ← hrd, hr]
    have hr2 : fvN s d = flipF r := by
      have := rnd_lt s.natAbs (-d)
      rw [flipF_low (by omega), hr]; unfold fvN; rw [decide_eq_true hneg]
    rw [hr2]
    have hsg : sgnI s = -1 := by unfold sgnI; rw [if_pos hneg]
    rw [hsg] at HS
    have NA := Lib.hid (negate_any w.heap.size 0 V _ W1.out HV.out.1)
    have HWB : Hid (wordB (negW V)) := Lib.hid HV.out.neg.1
    obtain ⟨N, hN⟩ : ∃ N, N = s.natAbs := ⟨_, rfl⟩
    rw [← hN] at hwv hrr hrd hdq hN46 hrle
    clear hN hs' hab hr hneg hsm hr2 hsg
    go_enter Try.func111, Try.ntmps111
    go_wp2_with fail
    refine (HS.out w W1.out).mono ?_
    rintro en w' ⟨rfl, rfl⟩
    go_wp2_with fail
    refine NA.out.mono ?_
    rintro en w2 ⟨⟨v2, rfl⟩, W5, C5⟩
    have WX := Lib.hid W5
    have BX := Lib.hid (Fr.below B1.out ((Fr.refl _ w.heap.size).chgB C5) (Nat.le_refl _) (Nat.le_of_lt z))
    clear W5 C5 NA
    have HB := Lib.hid fun j hj => bit_any w.heap.size 0 (negW V) j _ WX.out HWB.out hj
    have HSO := Lib.hid fun j hj => some_any w.heap.size 0 (negW V) j _ WX.out HWB.out hj
    have HLG := Lib.hid (long_any w.heap.size 0 (negW V) _ WX.out HWB.out)
    have HBE := Lib.hid fun j hj => bitW_eq HWB.out (n := j) hj
    rw [hwv] at HLG HBE HSO
    have HBL := Lib.hid fun j => bitW_lt (negW V) j
    obtain ⟨L, hL⟩ : ∃ L, L = lenN N := ⟨_, rfl⟩
    have hLd := len_div N
    have hL46 := lenN_lt hN46
    rw [← hL] at HLG hLd hL46
    have hD : max (max ((L : Int) - 1 - d - 52) (-1074) + d) 0 = ((dropN N d : Nat) : Int) := by unfold dropN; rw [← hL]; omega
    obtain ⟨D, gD⟩ : ∃ D, D = dropN N d := ⟨_, rfl⟩
    rw [← gD] at hD hdq hrd hrr
    have hD46 : D ≤ 4608 := by unfold K46 at hL46; omega
    have hL46' : L ≤ 4607 := hL46
    have HLd := Lib.hid hLd; have HRD := Lib.hid hrd; have HRR := Lib.hid hrr
    have hN0 : N / 2 ^ D < 9007199254740992 := hdq
    clear hL hLd hL46 gD hwv hrd hrr
    go_wp2_with fail
    refine HLG.out.mono ?_
    rintro en w' ⟨rfl, rfl⟩
    go_wp2_with fail
    refine HLG.out.mono ?_
    rintro en w' ⟨rfl, rfl⟩
    have HD := Lib.hid hD
    have HN0 := Lib.hid hN0
    clear HLG
    go_wp2_with fail
    clear hD hN0
    go_loop [8, 9] (fun nv t => ∃ k : Nat, t = .int .i64 ((k : Int) - 1) ∧ k ≤ L ∧ (D ≤ k ∨ k = L) ∧ nv = .int .u64 (N / 2 ^ k : Nat)) (fun _ t => (intOf t + 1).toNat)
    case atStart => exact ⟨L, by go_num, Nat.le_refl _, .inr rfl, by rw [HLd.out]; rfl⟩
    case round =>
      obtain ⟨k, rfl, hk, hkd, rfl⟩ := hrel
      by_cases hc : D < k
      · rcases k with _ | j
        · omega
        have e : ((j + 1 : Nat) : Int) - 1 = (j : Int) := by omega
        rw [e]
        have hge : (D : Int) ≤ (j : Int) := by omega
        have hnb : N / 2 ^ (j + 1) < 2 ^ 62 := by
          have h1 := HN0.out
          have h2 : N / 2 ^ (j + 1) ≤ N / 2 ^ D := Nat.div_le_div_left (Nat.pow_le_pow_right (by omega) (by omega)) (Nat.two_pow_pos _)
          omega
        have hst := div_shift N j
        have HBj := Lib.hid (HB.out j (by omega))
        have hbl := HBL.out j
        rw [← HBE.out j (by omega)] at hst
        obtain ⟨b, hb⟩ : ∃ b, b = bitW (negW V) j := ⟨_, rfl⟩
        obtain ⟨n1, hn1⟩ : ∃ n, n = N / 2 ^ (j + 1) := ⟨_, rfl⟩
        rw [← hb] at hst hbl HBj
        rw [← hn1] at hst hnb ⊢
        have hor := or_bit hnb hbl
        have HST := Lib.hid hst
        obtain ⟨n2, hn2⟩ : ∃ n, n = 2 * n1 + b := ⟨_, rfl⟩
        rw [← hn2] at hor HST
        have h0 : (0 : Int) ≤ (j : Int) := by omega
        clear e hb hn1 hst hn2
        go_wp2_with fail
        refine HBj.out.mono ?_
        rintro en w' ⟨rfl, rfl⟩
        go_wp2_with fail
        go_round
        case rel => exact ⟨j, by go_num, by omega, .inl (by omega), by rw [HST.out]⟩
        case measure => (simp [intOf] <;> omega)
      · have hlt : (k : Int) - 1 < (D : Int) := by omega
        have hND : N / 2 ^ k = N / 2 ^ D := by
          rcases hkd with h | h
          · rw [show k = D by omega]
          · subst h
            have h1 := HLd.out
            have h2 : N / 2 ^ D ≤ N / 2 ^ k := Nat.div_le_div_left (Nat.pow_le_pow_right (by omega) (by omega)) (Nat.two_pow_pos _)
            rw [h1] at h2
            rw [h1, Nat.le_zero.1 h2]
        rw [hND]
        have hkL := hk
        have hnq := HN0.out
        have hand := and_mask (b := N / 2 ^ D) (n := 1) (by omega) (by omega)
        rw [show ((2 ^ 1 - 1 : Nat) : Int) = 1 from rfl, show (2 : Nat) ^ 1 = 2 from rfl] at hand
        rcases D with _ | E
        · have e0 : rne N 0 = N / 2 ^ 0 := by rw [rne_zero, Nat.pow_zero, Nat.div_one]
          obtain ⟨q, hq⟩ : ∃ q, q = N / 2 ^ 0 := ⟨_, rfl⟩
          rw [← hq] at hnq e0 hand ⊢
          have hfl := fl_int q
          have hres := HRR.out
          rw [e0] at hres
          have HLD := Lib.hid fun w => mLdexp_any (fl q) (((0 : Nat) : Int) - d) w (fl_u53 (n := q) (by omega)).1 (by omega) (by omega)
          obtain ⟨y, hy⟩ : ∃ y, y = ldB (fl q) (((0 : Nat) : Int) - d) := ⟨_, rfl⟩
          rw [← hy] at HLD hres
          have HRES := Lib.hid hres
          rw [show ((0 : Nat) : Int) - d = -d by omega] at HLD
          clear hq e0 hy hand hND hkd hres
          go_wp2_with fail
          refine (HLD.out _).mono ?_
          rintro en w' ⟨rfl, rfl⟩
          go_wp2_with fail
          go_ret
          exact ⟨congrArg (fun x => Ending.returned (Value.float .f64 (flipF x))) HRES.out, BX.out⟩
        · have hE : E < 4608 := by omega
          have hbits := rne_bits N E
          have HBE1 := Lib.hid (HB.out E hE)
          have hbe := HBE.out E hE
          have HS1 := Lib.hid (HSO.out E (by omega))
          obtain ⟨b, hb⟩ : ∃ b, b = bitW (negW V) E := ⟨_, rfl⟩
          rw [← hb] at HBE1 hbe
          rw [← hbe] at hbits
          have hb2 := HBL.out E
          rw [← hb] at hb2
          obtain ⟨q, hq⟩ : ∃ q, q = N / 2 ^ (E + 1) := ⟨_, rfl⟩
          rw [← hq] at hnq hand hbits ⊢
          have e1 : ((E + 1 : Nat) : Int) - 1 = (E : Int) := by omega
          have hE0 : (0 : Int) < ((E + 1 : Nat) : Int) := by omega
          have hres := HRR.out
          have hfl0 := fl_int q
          have hfl1 : floatOfInt .f64 ((q : Int) + 1) = fl (q + 1) := fl_int (q + 1)
          have hd3 : ((E + 1 : Nat) : Int) - d ≤ 4608 := by omega
          have HQ := Lib.hid hnq
          have HLD0 := Lib.hid fun w => mLdexp_any (fl q) (((E + 1 : Nat) : Int) - d) w (fl_u53 (n := q) (by omega)).1 (by omega) (by omega)
          have HLD1 := Lib.hid fun w => mLdexp_any (fl (q + 1)) (((E + 1 : Nat) : Int) - d) w (fl_u53 (n := q + 1) (by omega)).1 (by omega) (by omega)
          have hb01 : b = 0 ∨ b = 1 := by omega
          have hq2 := Nat.mod_two_eq_zero_or_one q
          have HRES0 : Hid (rne N (E + 1) = q → ldB (fl q) (((E + 1 : Nat) : Int) - d) = r) := Lib.hid (fun h => by rw [h] at hres; exact hres)
          have HRES1 : Hid (rne N (E + 1) = q + 1 → ldB (fl (q + 1)) (((E + 1 : Nat) : Int) - d) = r) := Lib.hid (fun h => by rw [h] at hres; exact hres)
          clear hq hb hbe hND hkd hres hrle hd3
          obtain ⟨p, hp⟩ : ∃ p, p = N % 2 ^ E := ⟨_, rfl⟩
          rw [← hp] at hbits HS1
          clear hp
          rw [show (((E + 1 : Nat) : Int)) = (E : Int) + 1 by omega] at HLD0 HLD1 HRES0 HRES1
          rcases hb01 with rfl | rfl
          · have HRES := Lib.hid (HRES0.out (by rw [hbits, if_neg (by omega), Nat.add_zero]))
            have HLD := HLD0
            clear hbits HRES0 HRES1 HLD0 HLD1 HS1 hfl1
            obtain ⟨y, hy⟩ : ∃ y, y = ldB (fl q) ((E : Int) + 1 - d) := ⟨_, rfl⟩
            rw [← hy] at HLD HRES
            clear hy
            go_wp2_with fail
            refine HBE1.out.mono ?_
            rintro en w' ⟨rfl, rfl⟩
            go_wp2_with fail
            refine (HLD.out _).mono ?_
            rintro en w' ⟨rfl, rfl⟩
            go_wp2_with fail
            go_ret
            exact ⟨congrArg (fun x => Ending.returned (Value.float .f64 (flipF x))) HRES.out, BX.out⟩
          · rcases hq2 with hq2 | hq2
            · rw [hq2] at hand
              by_cases hp : p = 0
              · have HRES := Lib.hid (HRES0.out (by rw [hbits, if_neg (by omega), Nat.add_zero]))
                have HLD := HLD0
                rw [decide_eq_false (by omega : ¬ p ≠ 0)] at HS1
                clear hbits HRES0 HRES1 HLD0 HLD1 hfl1 hp
                obtain ⟨y, hy⟩ : ∃ y, y = ldB (fl q) ((E : Int) + 1 - d) := ⟨_, rfl⟩
                rw [← hy] at HLD HRES
                clear hy
                go_wp2_with fail
                refine HBE1.out.mono ?_
                rintro en w' ⟨rfl, rfl⟩
                go_wp2_with fail
                refine HS1.out.mono ?_
                rintro en w' ⟨rfl, rfl⟩
                go_wp2_with fail
                refine (HLD.out _).mono ?_
                rintro en w' ⟨rfl, rfl⟩
                go_wp2_with fail
                go_ret
                exact ⟨congrArg (fun x => Ending.returned (Value.float .f64 (flipF x))) HRES.out, BX.out⟩
              · have HRES := Lib.hid (HRES1.out (by rw [hbits, if_pos ⟨rfl, .inr hp⟩]))
                have HLD := HLD1
                rw [decide_eq_true hp] at HS1
                clear hbits HRES0 HRES1 HLD0 HLD1 hfl0 hp
                obtain ⟨y, hy⟩ : ∃ y, y = ldB (fl (q + 1)) ((E : Int) + 1 - d) := ⟨_, rfl⟩
                rw [← hy] at HLD HRES
                clear hy
                go_wp2_with fail
                refine HBE1.out.mono ?_
                rintro en w' ⟨rfl, rfl⟩
                go_wp2_with fail
                refine HS1.out.mono ?_
                rintro en w' ⟨rfl, rfl⟩
                go_wp2_with fail
                refine (HLD.out _).mono ?_
                rintro en w' ⟨rfl, rfl⟩
                go_wp2_with fail
                go_ret
                exact ⟨congrArg (fun x => Ending.returned (Value.float .f64 (flipF x))) HRES.out, BX.out⟩
            · rw [hq2] at hand
              have HRES := Lib.hid (HRES1.out (by rw [hbits, if_pos ⟨rfl, .inl hq2⟩]))
              have HLD := HLD1
              clear hbits HRES0 HRES1 HLD0 HLD1 HS1 hfl0 hq2
              obtain ⟨y, hy⟩ : ∃ y, y = ldB (fl (q + 1)) ((E : Int) + 1 - d) := ⟨_, rfl⟩
              rw [← hy] at HLD HRES
              clear hy
              go_wp2_with fail
              refine HBE1.out.mono ?_
              rintro en w' ⟨rfl, rfl⟩
              go_wp2_with fail
              refine (HLD.out _).mono ?_
              rintro en w' ⟨rfl, rfl⟩
              go_wp2_with fail
              go_ret
              exact ⟨congrArg (fun x => Ending.returned (Value.float .f64 (flipF x))) HRES.out, BX.out⟩
  · have hwv : wv V 72 = s.natAbs := by rw [HV.out.nat hsm (by omega)]; omega
    have hrr : ldB (fl (rne s.natAbs (dropN s.natAbs d))) ((dropN s.natAbs d : Nat) - d) = fvN s d := by
      rw [ldB_fl hrle, ← hrd]; unfold fvN wrd; rw [decide_eq_false hneg, if_neg Bool.false_ne_true]
    have hsg : ¬ sgnI s < 0 := by unfold sgnI; rw [if_neg hneg]; split <;> omega
    obtain ⟨r, hr⟩ : ∃ r, r = fvN s d := ⟨_, rfl⟩
    rw [← hr] at hrr ⊢
    have WX := W1
    have BX := B1
    have HWB := Lib.hid HV.out.1
    obtain ⟨N, hN⟩ : ∃ N, N = s.natAbs := ⟨_, rfl⟩
    rw [← hN] at hwv hrr hrd hdq hN46 hrle
    obtain ⟨g, hg⟩ : ∃ g, g = sgnI s := ⟨_, rfl⟩
    rw [← hg] at hsg HS
    clear hg hN hs' hab hr hneg hsm
    go_enter Try.func111, Try.ntmps111
    go_wp2_with fail
    refine (HS.out w W1.out).mono ?_
    rintro en w' ⟨rfl, rfl⟩
    have HB := Lib.hid fun j hj => bit_any w.heap.size 0 V j _ WX.out HWB.out hj
    have HSO := Lib.hid fun j hj => some_any w.heap.size 0 V j _ WX.out HWB.out hj
    have HLG := Lib.hid (long_any w.heap.size 0 V _ WX.out HWB.out)
    have HBE := Lib.hid fun j hj => bitW_eq HWB.out (n := j) hj
    rw [hwv] at HLG HBE HSO
    have HBL := Lib.hid fun j => bitW_lt V j
    obtain ⟨L, hL⟩ : ∃ L, L = lenN N := ⟨_, rfl⟩
    have hLd := len_div N
    have hL46 := lenN_lt hN46
    rw [← hL] at HLG hLd hL46
    have hD : max (max ((L : Int) - 1 - d - 52) (-1074) + d) 0 = ((dropN N d : Nat) : Int) := by unfold dropN; rw [← hL]; omega
    obtain ⟨D, gD⟩ : ∃ D, D = dropN N d := ⟨_, rfl⟩
    rw [← gD] at hD hdq hrd hrr
    have hD46 : D ≤ 4608 := by unfold K46 at hL46; omega
    have hL46' : L ≤ 4607 := hL46
    have HLd := Lib.hid hLd; have HRD := Lib.hid hrd; have HRR := Lib.hid hrr
    have hN0 : N / 2 ^ D < 9007199254740992 := hdq
    clear hL hLd hL46 gD hwv hrd hrr
    go_wp2_with fail
    refine HLG.out.mono ?_
    rintro en w' ⟨rfl, rfl⟩
    go_wp2_with fail
    refine HLG.out.mono ?_
    rintro en w' ⟨rfl, rfl⟩
    have HD := Lib.hid hD
    have HN0 := Lib.hid hN0
    clear HLG
    go_wp2_with fail
    clear hD hN0
    go_loop [8, 9] (fun nv t => ∃ k : Nat, t = .int .i64 ((k : Int) - 1) ∧ k ≤ L ∧ (D ≤ k ∨ k = L) ∧ nv = .int .u64 (N / 2 ^ k : Nat)) (fun _ t => (intOf t + 1).toNat)
    case atStart => exact ⟨L, by go_num, Nat.le_refl _, .inr rfl, by rw [HLd.out]; rfl⟩
    case round =>
      obtain ⟨k, rfl, hk, hkd, rfl⟩ := hrel
      by_cases hc : D < k
      · rcases k with _ | j
        · omega
        have e : ((j + 1 : Nat) : Int) - 1 = (j : Int) := by omega
        rw [e]
        have hge : (D : Int) ≤ (j : Int) := by omega
        have hnb : N / 2 ^ (j + 1) < 2 ^ 62 := by
          have h1 := HN0.out
          have h2 : N / 2 ^ (j + 1) ≤ N / 2 ^ D := Nat.div_le_div_left (Nat.pow_le_pow_right (by omega) (by omega)) (Nat.two_pow_pos _)
          omega
        have hst := div_shift N j
        have HBj := Lib.hid (HB.out j (by omega))
        have hbl := HBL.out j
        rw [← HBE.out j (by omega)] at hst
        obtain ⟨b, hb⟩ : ∃ b, b = bitW V j := ⟨_, rfl⟩
        obtain ⟨n1, hn1⟩ : ∃ n, n = N / 2 ^ (j + 1) := ⟨_, rfl⟩
        rw [← hb] at hst hbl HBj
        rw [← hn1] at hst hnb ⊢
        have hor := or_bit hnb hbl
        have HST := Lib.hid hst
        obtain ⟨n2, hn2⟩ : ∃ n, n = 2 * n1 + b := ⟨_, rfl⟩
        rw [← hn2] at hor HST
        have h0 : (0 : Int) ≤ (j : Int) := by omega
        clear e hb hn1 hst hn2
        go_wp2_with fail
        refine HBj.out.mono ?_
        rintro en w' ⟨rfl, rfl⟩
        go_wp2_with fail
        go_round
        case rel => exact ⟨j, by go_num, by omega, .inl (by omega), by rw [HST.out]⟩
        case measure => (simp [intOf] <;> omega)
      · have hlt : (k : Int) - 1 < (D : Int) := by omega
        have hND : N / 2 ^ k = N / 2 ^ D := by
          rcases hkd with h | h
          · rw [show k = D by omega]
          · subst h
            have h1 := HLd.out
            have h2 : N / 2 ^ D ≤ N / 2 ^ k := Nat.div_le_div_left (Nat.pow_le_pow_right (by omega) (by omega)) (Nat.two_pow_pos _)
            rw [h1] at h2
            rw [h1, Nat.le_zero.1 h2]
        rw [hND]
        have hkL := hk
        have hnq := HN0.out
        have hand := and_mask (b := N / 2 ^ D) (n := 1) (by omega) (by omega)
        rw [show ((2 ^ 1 - 1 : Nat) : Int) = 1 from rfl, show (2 : Nat) ^ 1 = 2 from rfl] at hand
        rcases D with _ | E
        · have e0 : rne N 0 = N / 2 ^ 0 := by rw [rne_zero, Nat.pow_zero, Nat.div_one]
          obtain ⟨q, hq⟩ : ∃ q, q = N / 2 ^ 0 := ⟨_, rfl⟩
          rw [← hq] at hnq e0 hand ⊢
          have hfl := fl_int q
          have hres := HRR.out
          rw [e0] at hres
          have HLD := Lib.hid fun w => mLdexp_any (fl q) (((0 : Nat) : Int) - d) w (fl_u53 (n := q) (by omega)).1 (by omega) (by omega)
          obtain ⟨y, hy⟩ : ∃ y, y = ldB (fl q) (((0 : Nat) : Int) - d) := ⟨_, rfl⟩
          rw [← hy] at HLD hres
          have HRES := Lib.hid hres
          rw [show ((0 : Nat) : Int) - d = -d by omega] at HLD
          clear hq e0 hy hand hND hkd hres
          go_wp2_with fail
          refine (HLD.out _).mono ?_
          rintro en w' ⟨rfl, rfl⟩
          go_wp2_with fail
          go_ret
          exact ⟨congrArg (fun x => Ending.returned (Value.float .f64 (x))) HRES.out, BX.out⟩
        · have hE : E < 4608 := by omega
          have hbits := rne_bits N E
          have HBE1 := Lib.hid (HB.out E hE)
          have hbe := HBE.out E hE
          have HS1 := Lib.hid (HSO.out E (by omega))
          obtain ⟨b, hb⟩ : ∃ b, b = bitW V E := ⟨_, rfl⟩
          rw [← hb] at HBE1 hbe
          rw [← hbe] at hbits
          have hb2 := HBL.out E
          rw [← hb] at hb2
          obtain ⟨q, hq⟩ : ∃ q, q = N / 2 ^ (E + 1) := ⟨_, rfl⟩
          rw [← hq] at hnq hand hbits ⊢
          have e1 : ((E + 1 : Nat) : Int) - 1 = (E : Int) := by omega
          have hE0 : (0 : Int) < ((E + 1 : Nat) : Int) := by omega
          have hres := HRR.out
          have hfl0 := fl_int q
          have hfl1 : floatOfInt .f64 ((q : Int) + 1) = fl (q + 1) := fl_int (q + 1)
          have hd3 : ((E + 1 : Nat) : Int) - d ≤ 4608 := by omega
          have HQ := Lib.hid hnq
          have HLD0 := Lib.hid fun w => mLdexp_any (fl q) (((E + 1 : Nat) : Int) - d) w (fl_u53 (n := q) (by omega)).1 (by omega) (by omega)
          have HLD1 := Lib.hid fun w => mLdexp_any (fl (q + 1)) (((E + 1 : Nat) : Int) - d) w (fl_u53 (n := q + 1) (by omega)).1 (by omega) (by omega)
          have hb01 : b = 0 ∨ b = 1 := by omega
          have hq2 := Nat.mod_two_eq_zero_or_one q
          have HRES0 : Hid (rne N (E + 1) = q → ldB (fl q) (((E + 1 : Nat) : Int) - d) = r) := Lib.hid (fun h => by rw [h] at hres; exact hres)
          have HRES1 : Hid (rne N (E + 1) = q + 1 → ldB (fl (q + 1)) (((E + 1 : Nat) : Int) - d) = r) := Lib.hid (fun h => by rw [h] at hres; exact hres)
          clear hq hb hbe hND hkd hres hrle hd3
          obtain ⟨p, hp⟩ : ∃ p, p = N % 2 ^ E := ⟨_, rfl⟩
          rw [← hp] at hbits HS1
          clear hp
          rw [show (((E + 1 : Nat) : Int)) = (E : Int) + 1 by omega] at HLD0 HLD1 HRES0 HRES1
          rcases hb01 with rfl | rfl
          · have HRES := Lib.hid (HRES0.out (by rw [hbits, if_neg (by omega), Nat.add_zero]))
            have HLD := HLD0
            clear hbits HRES0 HRES1 HLD0 HLD1 HS1 hfl1
            obtain ⟨y, hy⟩ : ∃ y, y = ldB (fl q) ((E : Int) + 1 - d) := ⟨_, rfl⟩
            rw [← hy] at HLD HRES
            clear hy
            go_wp2_with fail
            refine HBE1.out.mono ?_
            rintro en w' ⟨rfl, rfl⟩
            go_wp2_with fail
            refine (HLD.out _).mono ?_
            rintro en w' ⟨rfl, rfl⟩
            go_wp2_with fail
            go_ret
            exact ⟨congrArg (fun x => Ending.returned (Value.float .f64 (x))) HRES.out, BX.out⟩
          · rcases hq2 with hq2 | hq2
            · rw [hq2] at hand
              by_cases hp : p = 0
              · have HRES := Lib.hid (HRES0.out (by rw [hbits, if_neg (by omega), Nat.add_zero]))
                have HLD := HLD0
                rw [decide_eq_false (by omega : ¬ p ≠ 0)] at HS1
                clear hbits HRES0 HRES1 HLD0 HLD1 hfl1 hp
                obtain ⟨y, hy⟩ : ∃ y, y = ldB (fl q) ((E : Int) + 1 - d) := ⟨_, rfl⟩
                rw [← hy] at HLD HRES
                clear hy
                go_wp2_with fail
                refine HBE1.out.mono ?_
                rintro en w' ⟨rfl, rfl⟩
                go_wp2_with fail
                refine HS1.out.mono ?_
                rintro en w' ⟨rfl, rfl⟩
                go_wp2_with fail
                refine (HLD.out _).mono ?_
                rintro en w' ⟨rfl, rfl⟩
                go_wp2_with fail
                go_ret
                exact ⟨congrArg (fun x => Ending.returned (Value.float .f64 (x))) HRES.out, BX.out⟩
              · have HRES := Lib.hid (HRES1.out (by rw [hbits, if_pos ⟨rfl, .inr hp⟩]))
                have HLD := HLD1
                rw [decide_eq_true hp] at HS1
                clear hbits HRES0 HRES1 HLD0 HLD1 hfl0 hp
                obtain ⟨y, hy⟩ : ∃ y, y = ldB (fl (q + 1)) ((E : Int) + 1 - d) := ⟨_, rfl⟩
                rw [← hy] at HLD HRES
                clear hy
                go_wp2_with fail
                refine HBE1.out.mono ?_
                rintro en w' ⟨rfl, rfl⟩
                go_wp2_with fail
                refine HS1.out.mono ?_
                rintro en w' ⟨rfl, rfl⟩
                go_wp2_with fail
                refine (HLD.out _).mono ?_
                rintro en w' ⟨rfl, rfl⟩
                go_wp2_with fail
                go_ret
                exact ⟨congrArg (fun x => Ending.returned (Value.float .f64 (x))) HRES.out, BX.out⟩
            · rw [hq2] at hand
              have HRES := Lib.hid (HRES1.out (by rw [hbits, if_pos ⟨rfl, .inl hq2⟩]))
              have HLD := HLD1
              clear hbits HRES0 HRES1 HLD0 HLD1 HS1 hfl0 hq2
              obtain ⟨y, hy⟩ : ∃ y, y = ldB (fl (q + 1)) ((E : Int) + 1 - d) := ⟨_, rfl⟩
              rw [← hy] at HLD HRES
              clear hy
              go_wp2_with fail
              refine HBE1.out.mono ?_
              rintro en w' ⟨rfl, rfl⟩
              go_wp2_with fail
              refine (HLD.out _).mono ?_
              rintro en w' ⟨rfl, rfl⟩
              go_wp2_with fail
              go_ret
              exact ⟨congrArg (fun x => Ending.returned (Value.float .f64 (x))) HRES.out, BX.out⟩
end Go.Proofs.Ytjakjnmfndfehaa

namespace Go.Pst
open Go Ieee
/-- What a sum is as a float. -/
def exV (nn p l s m : Bool) (sum d : Int) : Nat :=
  if nn || (p && l) then 9221120237041090561 else if p then 9218868437227405312 else if l then 18442240474082181120 else if sum = 0 then (if s && !m then 9223372036854775808 else 0) else fvN sum d
end Go.Pst
namespace Go.Proofs.Ytjakjnmfndfehaa
open Go.RowKit Go.Pst
set_option maxRecDepth 20000
set_option linter.unusedSimpArgs false
set_option linter.unusedVariables false

theorem long_f (n c : Nat) (A : Option Addr) (w : World) (hn : n ≤ 1099511627776) : Calls Try.prog 68 #[.slice A n c] w fun en w' => en = .returned (.bool (decide (65536 < n))) ∧ w = w' := by
  rw [show decide (65536 < n) = decide ((65536 : Int) < (n : Int)) by rw [decide_eq_decide]; omega]
  go_enter Try.func68, Try.ntmps68
  go_wp2
  go_ret
  exact ⟨rfl, rfl⟩

attribute [local go_sem] m64bits m64from
theorem mnanv_any (w : World) : Calls Try.prog 108 #[] w fun en w' => en = .returned (.float .f64 9221120237041090561) ∧ w = w' := by
  go_enter Try.func108, Try.ntmps108
  go_wp2
  go_ret
  exact ⟨rfl, rfl⟩

def InfPost (B : Nat) (V : Nat → Nat) (d : Int) (p l n b : Bool) (w : World) (en : Ending) (w' : World) : Prop :=
  (∃ v, en = .returned v) ∧ Fr w w' B ∧ ExAt w' B V d (p || !b) (l || b) n true true

set_option maxHeartbeats 1000000 in
theorem infinite_any (B : Nat) (V : Nat → Nat) (d : Int) (p l n s m b : Bool) (w : World) (h : ExAt w B V d p l n s m) :
    Calls Try.prog 76 #[.pointer (some ⟨B, 0, none⟩), .bool b] w (InfPost B V d p l n b w) := by
  have H := Lib.hid h
  have f3 := h.wide.fr 73; have f4 := h.wide.fr 74; have f6 := h.wide.fr 76; have f7 := h.wide.fr 77
  have c3 := h.cp; have c4 := h.cl; have c6 := h.cs; have c7 := h.cm
  clear h
  have HF : Hid (InfPost B V d p l n b w (.returned (.tuple #[])) ((((w.setCell ⟨B, 76, none⟩ (.bool true)).setCell ⟨B, 77, none⟩ (.bool true)).setCell ⟨B, 73, none⟩ (.bool (p || !b))).setCell ⟨B, 74, none⟩ (.bool (l || b)))) := Lib.hid
    ⟨⟨_, rfl⟩, ((((Fr.refl w B).setB _ _).setB _ _).setB _ _).setB _ _, H.out.setS.setM.setP.setL⟩
  cases p <;> cases l <;> cases b <;>
  · go_enter Try.func76, Try.ntmps76
    go_wp2_with fail
    go_end0
    exact HF.out

theorem info72l (V : Nat → Nat) : (Try.prog.info? 82).map (·.size) = some (wcells V).length := by
  rw [info72, wcells_len]; rfl


set_option maxHeartbeats 4000000 in
theorem total_any (B : Nat) (V : Nat → Nat) (d sum : Int) (p l nn s m : Bool) (w : World) (h : ExAt w B V d p l nn s m) (hV : WIs V sum) (hs : sum.natAbs < 2 ^ K46) (hd : 1074 ≤ d ∧ d ≤ 2148) :
    Calls Try.prog 78 #[.pointer (some ⟨B, 0, none⟩)] w fun en w' => en = .returned (.float .f64 (exV nn p l s m sum d)) ∧ Below w.heap.size w w' := by
  have hs' : sum.natAbs < H71 := by rw [h71_two]; exact hs
  have hsm : Small sum := ⟨by omega, by omega⟩
  have HSG := Lib.hid fun w h => sign_any B 0 V sum w h hV hsm
  have HFL := Lib.hid fun w => float_any V sum d w hV hs hd
  have H := Lib.hid h
  have c3 := h.cp; have c4 := h.cl; have c5 := h.cn; have c6 := h.cs; have c7 := h.cm
  clear h hs hs' hsm hV
  obtain ⟨r, hr⟩ : ∃ r, r = exV nn p l s m sum d := ⟨_, rfl⟩
  rw [← hr]
  unfold exV at hr
  cases nn
  · cases p
    · cases l
      · by_cases h0 : sum = 0
        · have hg : sgnI sum = 0 := by rw [h0]; rfl
          rw [hg] at HSG
          cases s
          · have HR : Hid (0 = r) := Lib.hid (by rw [hr]; simp [h0])
            clear hr h0 hg
            go_enter Try.func78, Try.ntmps78
            go_wp2_with fail
            refine (HSG.out _ H.out.wide).mono ?_
            rintro en w' ⟨rfl, rfl⟩
            go_wp2_with fail
            go_ret
            exact ⟨congrArg (fun x => Ending.returned (Value.float .f64 x)) HR.out, Below.refl _ _⟩
          · cases m
            · have HR : Hid (9223372036854775808 = r) := Lib.hid (by rw [hr]; simp [h0])
              have HC := Lib.hid fun w => mcopy_any 0 13830554455654793216 w (by omega) (by omega)
              rw [show csN 0 13830554455654793216 = 9223372036854775808 from by decide] at HC
              clear hr h0 hg
              go_enter Try.func78, Try.ntmps78
              go_wp2_with fail
              refine (HSG.out _ H.out.wide).mono ?_
              rintro en w' ⟨rfl, rfl⟩
              go_wp2_with fail
              refine (HC.out _).mono ?_
              rintro en w' ⟨rfl, rfl⟩
              go_wp2_with fail
              go_ret
              exact ⟨congrArg (fun x => Ending.returned (Value.float .f64 x)) HR.out, Below.refl _ _⟩
            · have HR : Hid (0 = r) := Lib.hid (by rw [hr]; simp [h0])
              clear hr h0 hg
              go_enter Try.func78, Try.ntmps78
              go_wp2_with fail
              refine (HSG.out _ H.out.wide).mono ?_
              rintro en w' ⟨rfl, rfl⟩
              go_wp2_with fail
              go_ret
              exact ⟨congrArg (fun x => Ending.returned (Value.float .f64 x)) HR.out, Below.refl _ _⟩
        · have HR : Hid (fvN sum d = r) := Lib.hid (by rw [hr]; simp [h0])
          have hg : (sgnI sum == 0) = false := by
            unfold sgnI
            by_cases h1 : sum < 0
            · rw [if_pos h1]; rfl
            · rw [if_neg h1, if_neg h0]; rfl
          obtain ⟨g, eg⟩ : ∃ g, g = sgnI sum := ⟨_, rfl⟩
          rw [← eg] at hg HSG
          clear hr h0 eg
          go_enter Try.func78, Try.ntmps78
          go_wp2_with fail
          refine (HSG.out _ H.out.wide).mono ?_
          rintro en w' ⟨rfl, rfl⟩
          go_wp2_with fail
          have hu := Try.underlying82
          have hi := info72l V
          have r0 : w.rangeAt B 0 (wcells V) := fun j v hv => by
            have hj : j < 72 := by rcases Nat.lt_or_ge j 72 with h | h; exact h; rw [List.getElem?_eq_none (by rw [wcells_len]; exact h)] at hv; cases hv
            rw [wcells_get _ hj] at hv; injection hv with hv; rw [← hv]
            exact H.out.wide.cell j hj
          have cd := H.out.cd
          have B0 := Lib.hid (Below.refl w.heap.size w)
          have hlt := H.out.wide.lt
          have KS := Lib.hid (fun (w1 w2 : World) (h1 : w1.rangeAt B 0 (wcells V)) (h2 : w1.cell? ⟨B, 72, none⟩ = some (.int .i64 d)) (h3 : B < w1.heap.size) (h4 : Hid (Below w.heap.size w w1)) (hb : Below w1.heap.size w1 w2) =>
            show w2.rangeAt B 0 (wcells V) ∧ w2.cell? ⟨B, 72, none⟩ = some (.int .i64 d) ∧ B < w2.heap.size ∧ Hid (Below w.heap.size w w2) from
              ⟨fun j v hv => by rw [hb.cell (show B < w1.heap.size from h3)]; exact h1 j v hv, by rw [hb.cell (show B < w1.heap.size from h3)]; exact h2, Nat.lt_of_lt_of_le h3 hb.size, Lib.hid (h4.out.trans (hb.mono h4.out.size))⟩)
          go_region_held3 (fun w2 => w2.rangeAt B 0 (wcells V) ∧ w2.cell? ⟨B, 72, none⟩ = some (.int .i64 d) ∧ B < w2.heap.size ∧ Hid (Below w.heap.size w w2))
            (first | (go_split_ands; exact KS.out _ _ (by assumption) (by assumption) (by assumption) (by assumption) (by assumption)) | (go_split_ands; exact KS.out _ _ (by assumption) (by assumption) (by assumption) (by assumption) (Below.refl _ _).drew) | (go_split_ands; exact KS.out _ _ (by assumption) (by assumption) (by assumption) (by assumption) (Below.refl _ _)))
            (first | (go_at_call 111; refine (HFL.out _).mono ?_; rintro en wn ⟨rfl, hbn⟩))
          go_split_ands
          have BF := (by assumption : Hid (Below w.heap.size w wn))
          clear hu hi r0 KS
          go_wp2_with fail
          go_ret
          exact ⟨congrArg (fun x => Ending.returned (Value.float .f64 x)) HR.out, BF.out⟩
      · have HR : Hid (18442240474082181120 = r) := Lib.hid (by rw [hr]; simp)
        clear hr
        go_enter Try.func78, Try.ntmps78
        go_wp2_with fail
        refine (mninf_any _).mono ?_
        rintro en w' ⟨rfl, rfl⟩
        go_wp2_with fail
        go_ret
        exact ⟨congrArg (fun x => Ending.returned (Value.float .f64 x)) HR.out, Below.refl _ _⟩
    · cases l
      · have HR : Hid (9218868437227405312 = r) := Lib.hid (by rw [hr]; simp)
        clear hr
        go_enter Try.func78, Try.ntmps78
        go_wp2_with fail
        refine (minfv_any _).mono ?_
        rintro en w' ⟨rfl, rfl⟩
        go_wp2_with fail
        go_ret
        exact ⟨congrArg (fun x => Ending.returned (Value.float .f64 x)) HR.out, Below.refl _ _⟩
      · have HR : Hid (9221120237041090561 = r) := Lib.hid (by rw [hr]; simp)
        clear hr
        go_enter Try.func78, Try.ntmps78
        go_wp2_with fail
        refine (mnanv_any _).mono ?_
        rintro en w' ⟨rfl, rfl⟩
        go_wp2_with fail
        go_ret
        exact ⟨congrArg (fun x => Ending.returned (Value.float .f64 x)) HR.out, Below.refl _ _⟩
  · have HR : Hid (9221120237041090561 = r) := Lib.hid (by rw [hr]; simp)
    clear hr
    go_enter Try.func78, Try.ntmps78
    go_wp2_with fail
    refine (mnanv_any _).mono ?_
    rintro en w' ⟨rfl, rfl⟩
    go_wp2_with fail
    go_ret
    exact ⟨congrArg (fun x => Ending.returned (Value.float .f64 x)) HR.out, Below.refl _ _⟩
end Go.Proofs.Ytjakjnmfndfehaa

namespace Go.Pst
open Go Ieee Go.Proofs.Ytjakjnmfndfehaa
set_option linter.unusedVariables false
set_option linter.unusedSimpArgs false
section
variable (f : Nat → Nat)
def finF (b : Nat) : Bool := !nan64 b && !infB b
def exN : Nat → Bool
  | 0 => false
  | k + 1 => exN k || nan64 (f k)
def exP : Nat → Bool
  | 0 => false
  | k + 1 => exP k || (!nan64 (f k) && infB (f k) && !negB (f k))
def exL : Nat → Bool
  | 0 => false
  | k + 1 => exL k || (!nan64 (f k) && infB (f k) && negB (f k))
def exS : Nat → Bool
  | 0 => false
  | k + 1 => exS k || !nan64 (f k)
def exM : Nat → Bool
  | 0 => false
  | k + 1 => exM k || (!nan64 (f k) && (infB (f k) || decide (magN (f k) ≠ 0) || !negB (f k)))
def exSum : Nat → Int
  | 0 => 0
  | k + 1 => exSum k + (if finF (f k) then valZ (f k) else 0)
/-- The exact sum of the first n numbers, rounded once. -/
def exactV (n : Nat) : Nat := exV (exN f n) (exP f n) (exL f n) (exS f n) (exM f n) (exSum f n) 1074
end
def K21 : Nat := 2098
theorem mag_lt {b : Nat} (h : finB b) : magN b < 2 ^ K21 := by
  unfold magN
  have h1 := mant_lt b
  have h2 := place_fin h
  have h3 : mantB b * 2 ^ placeB b < 2 ^ 53 * 2 ^ placeB b := Nat.mul_lt_mul_of_pos_right h1 (Nat.two_pow_pos _)
  rw [← Nat.pow_add] at h3
  exact Nat.lt_of_lt_of_le h3 (Nat.pow_le_pow_right (by omega) (by unfold K21; omega))
theorem finF_iff {b : Nat} (hb : b < 2 ^ 64) : finF b = true ↔ finB b := by
  unfold finF finB; cases nan64 b <;> cases infB b <;> simp [hb]
theorem exSum_bd {f : Nat → Nat} : ∀ k, (∀ j, j < k → f j < 2 ^ 64) → (exSum f k).natAbs ≤ k * 2 ^ K21
  | 0, _ => by simp [exSum]
  | k + 1, h => by
    have h1 := exSum_bd k fun j hj => h j (by omega)
    unfold exSum
    rw [Nat.add_mul, Nat.one_mul]
    split
    · rename_i hf
      have h2 := mag_lt ((finF_iff (h k (by omega))).1 hf)
      rw [mag_abs] at h2
      generalize (2 : Nat) ^ K21 = X at *
      omega
    · generalize (2 : Nat) ^ K21 = X at *
      omega
theorem exSum_small {f : Nat → Nat} {n : Nat} (hn : n ≤ 65536) (h : ∀ j, j < n → f j < 2 ^ 64) : (exSum f n).natAbs < 2 ^ K46 := by
  have h1 := exSum_bd n h
  have h2 : n * 2 ^ K21 ≤ 2 ^ 16 * 2 ^ K21 := Nat.mul_le_mul_right _ (by omega)
  rw [← Nat.pow_add] at h2
  have h3 : 2 ^ (16 + K21) < 2 ^ K46 := Nat.pow_lt_pow_right (by omega) (by decide)
  exact Nat.lt_of_le_of_lt (Nat.le_trans h1 h2) h3
theorem inf_sign {b : Nat} (hb : b < 2 ^ 64) (hi : infB b = true) : flt .f64 b 0 = negB b ∧ nan64 b = false := by
  unfold infB at hi
  simp only [decide_eq_true_eq] at hi
  have hn : nan64 b = false := by unfold nan64; rw [hi]; decide
  refine ⟨?_, hn⟩
  rw [flt64, hn, show nan64 0 = false from rfl, show key64 0 = 0 from rfl]
  unfold key64 negB
  rcases Nat.lt_or_ge b 9223372036854775808 with h | h
  · rw [if_neg (by omega), decide_eq_false (by omega : ¬ 9223372036854775808 ≤ b)]
    simp
    omega
  · rw [if_pos (by omega), decide_eq_true h]
    simp; omega
end Go.Pst
namespace Go.Proofs.Ytjakjnmfndfehaa
open Go.RowKit Go.Pst
set_option maxRecDepth 20000
set_option linter.unusedSimpArgs false
set_option linter.unusedVariables false

/-- A list of numbers in memory. -/
def FlAt (w : World) (B : Nat) (A : Option Addr) (n : Nat) (f : Nat → Nat) : Prop :=
  0 < n → ∃ b off, A = some ⟨b, off, none⟩ ∧ b < B ∧ ∀ i, i < n → w.cell? ⟨b, off + i, none⟩ = some (.float .f64 (f i))
theorem FlAt.below {w w' : World} {B B' : Nat} {A : Option Addr} {n : Nat} {f : Nat → Nat} (h : FlAt w B A n f) (hb : Below B' w w') (hB : B ≤ B') : FlAt w' B A n f := fun hn => by
  obtain ⟨b, off, h1, h2, h3⟩ := h hn
  exact ⟨b, off, h1, h2, fun i hi => by rw [hb.cell (show b < B' by omega)]; exact h3 i hi⟩
theorem FlAt.more {w : World} {B B' : Nat} {A : Option Addr} {n : Nat} {f : Nat → Nat} (h : FlAt w B A n f) (hB : B ≤ B') : FlAt w B' A n f := fun hn => by
  obtain ⟨b, off, h1, h2, h3⟩ := h hn
  exact ⟨b, off, h1, by omega, h3⟩

theorem ex_new (w : World) (d : Int) (cs : Array Value) (hw : ∀ i, i < 72 → cs[i]? = some (.int .u64 0)) (h2 : cs[72]? = some (.int .i64 d)) (h3 : cs[73]? = some (.bool false)) (h4 : cs[74]? = some (.bool false)) (h5 : cs[75]? = some (.bool false))
    (h6 : cs[76]? = some (.bool false)) (h7 : cs[77]? = some (.bool false)) : ExAt (w.alloc (.cells cs 84)) w.heap.size (fun _ => 0) d false false false false false := by
  have hh := heap_alloc_new w (.cells cs 84)
  refine ⟨⟨by simp, fun k => frozen_of_row _ _ _ _ _ hh, fun i hi => ?_⟩, ?_, ?_, ?_, ?_, ?_, ?_⟩
  · rw [cell_of_row _ _ _ _ _ _ hh, Nat.zero_add]; exact hw i hi
  all_goals (rw [cell_of_row _ _ _ _ _ _ hh]; assumption)
theorem zero84 : Try.zeroCells84 = ((wcells fun _ => 0) ++ ([.int .i64 0, .bool false, .bool false, .bool false, .bool false, .bool false] : List Value)).toArray := by kernel_rfl
theorem ex_made (w : World) (d : Int) : ExAt (w.alloc (.cells (Try.zeroCells84.setIfInBounds 72 (.int .i64 d)) 84)) w.heap.size (fun _ => 0) d false false false false false := by
  have hl := wcells_len (fun _ => 0)
  refine ex_new w d _ (fun i hi => ?_) ?_ ?_ ?_ ?_ ?_ ?_
  all_goals rw [zero84, List.setIfInBounds_toArray, List.getElem?_toArray, List.getElem?_set]
  · rw [if_neg (by omega), List.getElem?_append_left (by omega)]; exact wcells_get _ hi
  · rw [if_pos rfl, if_pos (by simp [hl])]
  all_goals (rw [if_neg (by omega), List.getElem?_append_right (by omega), hl]; rfl)
theorem wis_zero : WIs (fun _ => 0) 0 := ⟨fun i _ => w64_pos, by rw [wv_zero 72 (fun _ _ => rfl)]; unfold toW; simp⟩

set_option maxHeartbeats 4000000 in
theorem exact_any (n c : Nat) (A : Option Addr) (f : Nat → Nat) (w : World) (hA : FlAt w w.heap.size A n f) (hn : n ≤ 65536) (hf : ∀ j, j < n → f j < 2 ^ 64) :
    Calls Try.prog 26 #[.slice A n c] w fun en w' => en = .returned (.tuple #[.float .f64 (exactV f n), .int .i64 0]) ∧ Below w.heap.size w w' := by
  have HLG := Lib.hid fun w => long_f n c A w (by omega)
  rw [decide_eq_false (by omega : ¬ 65536 < n)] at HLG
  have HA := Lib.hid hA; have HF := Lib.hid hf
  have HSM := Lib.hid (exSum_small hn hf)
  clear hA hf
  go_enter Try.func26, Try.ntmps26
  go_wp2_with fail
  refine (HLG.out _).mono ?_
  rintro en w' ⟨rfl, rfl⟩
  go_wp2_with fail
  go_loopw [13] (fun t wr => ∃ k : Nat, t = .int .i64 k ∧ k ≤ n ∧ Below w.heap.size w wr ∧ ∃ V, ExAt wr w.heap.size V 1074 (exP f k) (exL f k) (exN f k) (exS f k) (exM f k) ∧ WIs V (exSum f k)) (fun t _ => n - (intOf t).toNat)
  case atStart => exact ⟨0, rfl, by omega, (Below.refl _ _).alloc (Nat.le_refl _) _, _, ex_made w 1074, wis_zero⟩
  case round =>
    obtain ⟨k, rfl, hk, hbw, V, hE, hV⟩ := hrel
    have BW := Lib.hid hbw; have HE := Lib.hid hE; have HV := Lib.hid hV
    clear hbw hE hV
    by_cases hkn : k < n
    · have h3 : (k : Int) < (n : Int) := by omega
      obtain ⟨a, o, rfl, ha, hc⟩ := (HA.out.below BW.out (Nat.le_refl _)) (by omega)
      have q := hc k hkn
      have hb := HF.out k hkn
      have zE := HE.out.wide.lt
      have eP : exP f (k + 1) = (exP f k || (!nan64 (f k) && infB (f k) && !negB (f k))) := rfl
      have eL : exL f (k + 1) = (exL f k || (!nan64 (f k) && infB (f k) && negB (f k))) := rfl
      have eN : exN f (k + 1) = (exN f k || nan64 (f k)) := rfl
      have eS : exS f (k + 1) = (exS f k || !nan64 (f k)) := rfl
      have eM : exM f (k + 1) = (exM f k || (!nan64 (f k) && (infB (f k) || decide (magN (f k) ≠ 0) || !negB (f k)))) := rfl
      have eU : exSum f (k + 1) = exSum f k + (if finF (f k) then valZ (f k) else 0) := rfl
      have hne := fne_self (f k)
      have hFI := Lib.hid (finF_iff hb)
      have hIS := Lib.hid fun h => inf_sign hb h
      have hMI := Lib.hid fun w => minf_any (f k) w hb
      have hfd : finF (f k) = (!nan64 (f k) && !infB (f k)) := rfl
      clear hc
      obtain ⟨x, hx⟩ : ∃ x, x = f k := ⟨_, rfl⟩
      rw [← hx] at q hb eP eL eN eS eM eU hne hFI hIS hMI hfd
      clear hx
      cases hnx : nan64 x
      · rw [hnx] at eP eL eN eS eM hne hfd
        cases hix : infB x
        · rw [hix] at eP eL eM hMI hfd
          have hfin : finB x := hFI.out.1 (by rw [hfd]; rfl)
          rw [show finF x = true from by rw [hfd]; rfl, if_pos rfl] at eU
          have EP := Lib.hid eP; have EL := Lib.hid eL; have EN := Lib.hid eN; have ES := Lib.hid eS; have EM := Lib.hid eM; have EU := Lib.hid eU
          have hal := (Below.refl wr.heap.size wr).alloc (Nat.le_refl _) (.cells #[.float .f64 x] 24)
          have HT := Lib.hid (term_any w.heap.size 1 1 wr.heap.size 0 V (fun _ => x) 1074 _ _ _ _ _ (wr.alloc (.cells #[.float .f64 x] 24)) (HE.out.below hal) (.inl rfl) (by simp)
            (fun j hj => by rw [show j = 0 by omega]; rw [cell_of_row _ _ _ _ _ _ (heap_alloc_new _ _)]; rfl) (fun _ _ => hfin) (by omega) _ HV.out)
          have hval : valZ x = sgn (xSum (fun _ => x) 1) (pwZ (sz (fun _ => x) 0 1 * sz (fun _ => x) 1 1) (eSum (fun _ => x) 1074 1)) := by
            show valZ x = sgn (false != negB x) (pwZ (frM x * 1) (1074 + (frE x - 53)))
            rw [Nat.mul_one, frM_one hfin, valZ_mag]
            cases negB x <;> rfl
          have hmag : pwZ (sz (fun _ => x) 0 1 * sz (fun _ => x) 1 1) (eSum (fun _ => x) 1074 1) = magN x := by
            show pwZ (frM x * 1) (1074 + (frE x - 53)) = magN x
            rw [Nat.mul_one, frM_one hfin]
          have hbl : xSum (fun _ => x) 1 = negB x := by show (false != negB x) = negB x; cases negB x <;> rfl
          rw [hmag, hbl] at HT hval
          have HVAL := Lib.hid hval
          have hBA := Lib.hid (BW.out.trans (hal.mono BW.out.size))
          have hsz : w.heap.size ≤ wr.heap.size := BW.out.size
          clear eP eL eN eS eM eU hal hval hmag hbl hfd hix hnx
          go_wp2_with fail
          refine (hMI.out _).mono ?_
          rintro en w' ⟨rfl, rfl⟩
          go_wp2_with fail
          refine HT.out.mono ?_
          rintro en w2 hT
          obtain ⟨⟨v2, rfl⟩, hF2, V2, hE2, hV2⟩ := hT
          have E2 := Lib.hid hE2; have V2' := Lib.hid hV2
          have B2 := Lib.hid (Fr.below hBA.out hF2 (Nat.le_refl _) (by simp; omega))
          clear hF2 hE2 hV2 HT
          go_wp2_with fail
          go_roundw
          case rel =>
            refine ⟨k + 1, by go_num, by omega, B2.out, V2, ?_, ?_⟩
            · have e2 := E2.out
              rw [EP.out, EL.out, EN.out, ES.out, EM.out]
              simpa [Bool.or_assoc] using e2
            · rw [EU.out, HVAL.out]; exact V2'.out
          case measure => (simp [intOf] <;> omega)
        · obtain ⟨hfl, -⟩ := hIS.out hix
          rw [hix] at eP eL eM hMI hfd
          rw [show finF x = false from by rw [hfd]; rfl, if_neg Bool.false_ne_true, Int.add_zero] at eU
          have EP := Lib.hid eP; have EL := Lib.hid eL; have EN := Lib.hid eN; have ES := Lib.hid eS; have EM := Lib.hid eM; have EU := Lib.hid eU
          have HT := Lib.hid (infinite_any w.heap.size V 1074 _ _ _ _ _ (negB x) wr HE.out)
          clear eP eL eN eS eM eU hfd hix hnx
          go_wp2_with fail
          refine (hMI.out _).mono ?_
          rintro en w' ⟨rfl, rfl⟩
          go_wp2_with fail
          refine HT.out.mono ?_
          rintro en w2 hT
          obtain ⟨⟨v2, rfl⟩, hF2, hE2⟩ := hT
          have E2 := Lib.hid hE2
          have B2 := Lib.hid (Fr.below BW.out hF2 (Nat.le_refl _) BW.out.size)
          clear hF2 hE2 HT
          go_wp2_with fail
          go_roundw
          case rel =>
            refine ⟨k + 1, by go_num, by omega, B2.out, V, ?_, ?_⟩
            · have e2 := E2.out
              rw [EP.out, EL.out, EN.out, ES.out, EM.out]
              simpa using e2
            · rw [EU.out]; exact HV.out
          case measure => (simp [intOf] <;> omega)
      · rw [hnx] at eP eL eN eS eM hne hfd
        rw [show finF x = false from by rw [hfd]; rfl, if_neg Bool.false_ne_true, Int.add_zero] at eU
        have EP := Lib.hid eP; have EL := Lib.hid eL; have EN := Lib.hid eN; have ES := Lib.hid eS; have EM := Lib.hid eM; have EU := Lib.hid eU
        have c5 := HE.out.cn
        have f5 := HE.out.wide.fr 75
        have E2 := Lib.hid (HE.out.setN (b := true))
        have B2 := Lib.hid (BW.out.setCell (p := ⟨w.heap.size, 75, none⟩) (Nat.le_refl _) (.bool true))
        clear eP eL eN eS eM eU hfd hnx
        go_wp2_with fail
        go_roundw
        case rel =>
          refine ⟨k + 1, by go_num, by omega, B2.out, V, ?_, ?_⟩
          · have e2 := E2.out
            rw [EP.out, EL.out, EN.out, ES.out, EM.out]
            simpa using e2
          · rw [EU.out]; exact HV.out
        case measure => (simp [intOf] <;> omega)
    · obtain rfl : k = n := by omega
      have HT := Lib.hid (total_any w.heap.size V 1074 _ _ _ _ _ _ wr HE.out HV.out HSM.out (by omega))
      go_wp2_with fail
      refine HT.out.mono ?_
      rintro en w2 ⟨rfl, hb2⟩
      have B2 := Lib.hid (BW.out.trans (hb2.mono BW.out.size))
      clear hb2 HT
      go_wp2_with fail
      go_ret2
      exact ⟨rfl, B2.out⟩
end Go.Proofs.Ytjakjnmfndfehaa
