/- Operations on floats that may draw which no number they give: what they give, up to that, and the world behind. No condition. -/
import Derived.Test.YtjakjnmfndfehaaLp
import Derived.WalkKit
import Derived.WalkLawsBesides
namespace Go.Pst
open Go Ieee Go.RowKit
set_option linter.unusedVariables false

theorem run_store_float (P : Program) (w : World) (a : Addr) (m : Mode) (k : FloatKind) (x : Nat) : (store a (.float k x) m).run P w = stored P w a (.float k x) m := run_store P w a _ m rfl
attribute [go_sem] run_store_float

/-- The world behind a question that is asked or not. -/
def wIf (c : Bool) (w : World) : World := if c then w.drew else w
@[simp, go_sem] theorem wIf_cell (c : Bool) (w : World) (p : Addr) : (wIf c w).cell? p = w.cell? p := by cases c <;> rfl
@[simp, go_sem] theorem wIf_frozen (c : Bool) (w : World) (p : Addr) : (wIf c w).frozen? p = w.frozen? p := by cases c <;> rfl
@[simp, go_sem] theorem wIf_size (c : Bool) (w : World) : (wIf c w).heap.size = w.heap.size := by cases c <;> rfl
theorem wIf_below (c : Bool) (w : World) {B : Nat} {W : World} (h : Below B W w) : Below B W (wIf c w) := by cases c; exact h; exact h.drew
theorem wIf_refl (c : Bool) (w : World) : Below w.heap.size w (wIf c w) := wIf_below c w (Below.refl _ _)

def arD (op : BinOp) (x y : Nat) : Option Nat := floatBits op .f64 x y
/-- The value, all no numbers as one. -/
def arV (op : BinOp) (x y : Nat) : Nat := arN (arD op x y)
/-- The very value. -/
def arU (op : BinOp) (w : World) (x y : Nat) : Nat := match arD op x y with | some r => r | none => (Question.nanBits .f64 x y).cut (w.tape w.drawn (.nanBits .f64 x y))
def arithB (op : BinOp) : Bool := match op with | .add | .sub | .mul | .quo => true | _ => false

theorem cut_nan (q : Nat) (x y : Nat) : nan64 ((Question.nanBits .f64 x y).cut q) = true := by
  unfold Question.cut nan64
  simp only
  rw [decide_eq_true_eq]
  have h1 : q % 2 = 0 ∨ q % 2 = 1 := by omega
  have h2 : q / 2 % (2 ^ 52 - 1) < 2 ^ 52 - 1 := Nat.mod_lt _ (by decide)
  generalize q / 2 % (2 ^ 52 - 1) = z at *
  omega

theorem product_some {a b c : Datum} (h : a.product b = some c) : c.isNaN = false := by
  unfold Datum.product at h
  (repeat' split at h) <;> first | (cases h; done) | (cases h; rfl)
theorem quotient_some {n : Nat} {a b c : Datum} (h : a.quotient n b = some c) : c.isNaN = false := by
  unfold Datum.quotient at h
  (repeat' split at h) <;> first | (cases h; done) | (cases h; rfl)

theorem arD_some {op : BinOp} {x y r : Nat} (h : arD op x y = some r) : nan64 r = false ∧ r < 2 ^ 64 := by
  unfold arD floatBits at h
  cases op <;> simp only at h <;> first | (cases h; done) | skip
  · exact add_some h
  · unfold FloatKind.format at h; unfold Format.sub at h
    cases hs : (Ieee.double.read x).sum (Ieee.double.read y).opposite with
    | none => rw [hs] at h; cases h
    | some c => rw [hs] at h; cases h; exact write_nan c (sum_some hs)
  · unfold FloatKind.format at h; unfold Format.mul at h
    cases hs : (Ieee.double.read x).product (Ieee.double.read y) with
    | none => rw [hs] at h; cases h
    | some c => rw [hs] at h; cases h; exact write_nan c (product_some hs)
  · unfold FloatKind.format at h; unfold Format.div at h
    cases hs : (Ieee.double.read x).quotient (Ieee.double.fractionBits + 2) (Ieee.double.read y) with
    | none => rw [hs] at h; cases h
    | some c => rw [hs] at h; cases h; exact write_nan c (quotient_some hs)

theorem cn_arV (op : BinOp) (x y : Nat) : cn (arV op x y) = arV op x y := by
  unfold arV arN
  cases h : arD op x y with
  | none => exact cn_of_nan _ nanNC
  | some r => exact cn_of _ (arD_some h).1
theorem arV_lt (op : BinOp) (x y : Nat) : arV op x y < 2 ^ 64 := by
  unfold arV arN
  cases h : arD op x y with
  | none => decide
  | some r => exact (arD_some h).2
theorem cn_arU (op : BinOp) (w : World) (x y : Nat) : cn (arU op w x y) = arV op x y := by
  unfold arU arV arN
  cases h : arD op x y with
  | none => exact cn_of_nan _ (cut_nan _ _ _)
  | some r => exact cn_of _ (arD_some h).1

theorem product_nan {a b : Datum} (h : a.isNaN = true ∨ b.isNaN = true) : a.product b = none := by
  cases a <;> cases b <;> simp_all [Datum.isNaN, Datum.product]
theorem quotient_nan {n : Nat} {a b : Datum} (h : a.isNaN = true ∨ b.isNaN = true) : a.quotient n b = none := by
  cases a <;> cases b <;> simp_all [Datum.isNaN, Datum.quotient]
theorem opposite_nan (d : Datum) : d.opposite.isNaN = d.isNaN := by cases d <;> rfl

theorem arD_nan (op : BinOp) (x y : Nat) (h : nan64 x = true ∨ nan64 y = true) : arD op x y = none := by
  have h' : (Ieee.double.read x).isNaN = true ∨ (Ieee.double.read y).isNaN = true := by
    rw [← isNaN64 x, ← isNaN64 y] at h; exact h
  unfold arD floatBits
  cases op <;> simp only <;> try rfl
  · exact add_nan h
  · show Ieee.double.sub x y = none
    unfold Format.sub
    rcases h' with h' | h'
    · rw [sum_nan_left h']; rfl
    · rw [sum_nan_right (by rw [opposite_nan]; exact h')]; rfl
  · show Ieee.double.mul x y = none
    unfold Format.mul; rw [product_nan h']; rfl
  · show Ieee.double.div x y = none
    unfold Format.div; rw [quotient_nan h']; rfl

/-- The value does not hang on which no number comes in. -/
theorem arV_cn (op : BinOp) {x y x' y' : Nat} (hx : cn x = cn x') (hy : cn y = cn y') : arV op x y = arV op x' y' := by
  have nx : nan64 x = nan64 x' := by rw [← cn_nan x, hx, cn_nan]
  have ny : nan64 y = nan64 y' := by rw [← cn_nan y, hy, cn_nan]
  by_cases h : nan64 x = true ∨ nan64 y = true
  · unfold arV; rw [arD_nan op x y h, arD_nan op x' y' (by rwa [← nx, ← ny])]
  · have h1 : nan64 x = false := by cases hh : nan64 x <;> simp_all
    have h2 : nan64 y = false := by cases hh : nan64 y <;> simp_all
    rw [cn_of x h1, cn_of x' (by rw [← nx]; exact h1)] at hx
    rw [cn_of y h2, cn_of y' (by rw [← ny]; exact h2)] at hy
    rw [hx, hy]

theorem arV_add (x y : Nat) : arV .add x y = addN x y := rfl

theorem run_ar (P : Program) (op : BinOp) (t : TypeId) (x y : Nat) (w : World) (h : arithB op = true) :
    Sem.run P (binOp op t (.float .f64 x) (.float .f64 y)) w = .ok (.float .f64 (arU op w x y)) (wIf (arD op x y).isNone w) := by
  unfold arU
  cases hd : arD op x y with
  | some r => simpa [wIf] using run_float_arith w op t .f64 x y r hd
  | none =>
    unfold arD floatBits at hd
    cases op <;> simp only [arithB] at h <;> first | (cases h; done) | skip
    all_goals
      simp only at hd
      simp [binOp, Op.floatArith, hd, Question.forced, wIf]

theorem run_fadd (P : Program) (t : TypeId) (x y : Nat) (w : World) : Sem.run P (binOp .add t (.float .f64 x) (.float .f64 y)) w = .ok (.float .f64 (arU .add w x y)) (wIf (arD .add x y).isNone w) := run_ar P .add t x y w rfl
theorem run_fsub (P : Program) (t : TypeId) (x y : Nat) (w : World) : Sem.run P (binOp .sub t (.float .f64 x) (.float .f64 y)) w = .ok (.float .f64 (arU .sub w x y)) (wIf (arD .sub x y).isNone w) := run_ar P .sub t x y w rfl
theorem run_fmul (P : Program) (t : TypeId) (x y : Nat) (w : World) : Sem.run P (binOp .mul t (.float .f64 x) (.float .f64 y)) w = .ok (.float .f64 (arU .mul w x y)) (wIf (arD .mul x y).isNone w) := run_ar P .mul t x y w rfl
theorem run_fquo (P : Program) (t : TypeId) (x y : Nat) (w : World) : Sem.run P (binOp .quo t (.float .f64 x) (.float .f64 y)) w = .ok (.float .f64 (arU .quo w x y)) (wIf (arD .quo x y).isNone w) := run_ar P .quo t x y w rfl

/-! ### A float of 32 bits, widened -/
def widD (c : Nat) : Option Nat := floatToFloatBits .f32 c .f64
def widV (c : Nat) : Nat := arN (widD c)
def widU (w : World) (c : Nat) : Nat := match widD c with | some r => r | none => (Question.nanConv .f64 c).cut (w.tape w.drawn (.nanConv .f64 c))

theorem cut_conv (q : Nat) (c : Nat) : nan64 ((Question.nanConv .f64 c).cut q) = true := by
  unfold Question.cut nan64
  simp only
  rw [decide_eq_true_eq]
  have h1 : q % 2 = 0 ∨ q % 2 = 1 := by omega
  have h2 : q / 2 % (2 ^ 52 - 1) < 2 ^ 52 - 1 := Nat.mod_lt _ (by decide)
  generalize q / 2 % (2 ^ 52 - 1) = z at *
  omega

theorem read32_num (c : Nat) {s : Bool} {m : Nat} {p : Int} (h : Ieee.single.read c = .number s m p) : m < 2 ^ 24 ∧ -149 ≤ p ∧ p ≤ 104 := by
  have hl : Ieee.single.leastPlace = -149 := by decide
  have hb : Ieee.single.binade = 8388608 := by decide
  have hi : Ieee.single.infRung = 2139095040 := by decide
  have hs : Ieee.single.signWeight = 2147483648 := by decide
  unfold Format.read at h
  simp only [hl, hb, hi, hs] at h
  split at h
  · cases h; omega
  · split at h
    · cases h; omega
    · split at h <;> cases h

theorem wid_fin (c : Nat) {s : Bool} {m : Nat} {p : Int} (h : Ieee.single.read c = .number s m p) :
    (Ieee.double.read (Ieee.double.write (.number s m p))).isInfinity = false ∧ Ieee.double.write (.number s m p) < 2 ^ 64 ∧ nan64 (Ieee.double.write (.number s m p)) = false := by
  obtain ⟨h1, h2, h3⟩ := read32_num c h
  have h4 := rv_exact m (p + 1074).toNat (by omega) (by omega)
  rw [show -1074 + ((p + 1074).toNat : Int) = p by omega] at h4
  rw [write64]
  have h5 := wrd_lt s (rndN 52 11 m p) (by omega)
  have h6 := nan_wrd s (rndN 52 11 m p) (by omega)
  refine ⟨?_, h5.1, h6⟩
  rw [read64 _ h5.1, h6]
  have : infB (wrd s (rndN 52 11 m p)) = false := by unfold infB; rw [h5.2.1]; simp; omega
  rw [this]; rfl

theorem widD_some {c r : Nat} (h : widD c = some r) : nan64 r = false ∧ r < 2 ^ 64 := by
  unfold widD floatToFloatBits at h
  rw [if_neg (by decide)] at h
  cases hd : FloatKind.f32.decode c with
  | nan s t => rw [hd] at h; cases h
  | infinity s => rw [hd] at h; cases h; cases s <;> decide
  | number s m p =>
    rw [hd] at h
    obtain ⟨h1, h2, h3⟩ := wid_fin c hd
    simp only at h
    split at h
    · cases h
    · cases h; exact ⟨h3, h2⟩

theorem widD_none {c : Nat} (h : widD c = none) : ∃ s t, FloatKind.f32.decode c = .nan s t := by
  unfold widD floatToFloatBits at h
  rw [if_neg (by decide)] at h
  cases hd : FloatKind.f32.decode c with
  | nan s t => exact ⟨s, t, rfl⟩
  | infinity s => rw [hd] at h; cases h
  | number s m p =>
    rw [hd] at h
    obtain ⟨h1, h2, h3⟩ := wid_fin c hd
    simp only at h
    split at h
    · rename_i hh
      have : (Ieee.double.read (Ieee.double.write (.number s m p))).isInfinity = true := hh
      rw [h1] at this; cases this
    · cases h

theorem cn_widV (c : Nat) : cn (widV c) = widV c := by
  unfold widV arN
  cases h : widD c with
  | none => exact cn_of_nan _ nanNC
  | some r => exact cn_of _ (widD_some h).1
theorem widV_lt (c : Nat) : widV c < 2 ^ 64 := by
  unfold widV arN
  cases h : widD c with
  | none => decide
  | some r => exact (widD_some h).2
theorem cn_widU (w : World) (c : Nat) : cn (widU w c) = widV c := by
  unfold widU widV arN
  cases h : widD c with
  | none => exact cn_of_nan _ (cut_conv _ _)
  | some r => exact cn_of _ (widD_some h).1

theorem run_wid (P : Program) (src dst : TypeId) (c : Nat) (w : World) (hs : (P.underlying src).isSome = true) (hd : P.underlying dst = some (.float .f64)) :
    Sem.run P (convert src dst (.float .f32 c)) w = .ok (.float .f64 (widU w c)) (wIf (widD c).isNone w) := by
  unfold widU
  cases h : widD c with
  | some r => simpa [wIf] using run_convert_float_float w src dst .f32 .f64 c r hs hd h
  | none =>
    obtain ⟨s, t, hn⟩ := widD_none h
    obtain ⟨u, hs'⟩ := Option.isSome_iff_exists.1 hs
    cases u <;> simp [convert, run_underlying hs', run_underlying hd, Conv.floatToFloat, hn, Question.forced, wIf]

end Go.Pst
