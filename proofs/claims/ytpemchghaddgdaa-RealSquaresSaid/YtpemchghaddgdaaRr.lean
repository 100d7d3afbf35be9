/- Sqrt, Modf, Power (the program's own). Condition: the bits fit. -/
import Derived.Test.YtpemchghaddgdaaMd
import Derived.Test.YtpemchghaddgdaaWe
import Derived.Test.YtpemchghaddgdaaRf
namespace Go.Pst
open Go Ieee Go.RowKit
set_option linter.unusedVariables false
set_option linter.unusedSimpArgs false

/-! ### Roots -/
def sqD (x : Nat) : Option Nat := FloatKind.f64.format.sqrt x
def sqV (x : Nat) : Nat := arN (sqD x)
def sqU (w : World) (x : Nat) : Nat := match sqD x with | some r => r | none => (Question.nanBits .f64 x x).cut (w.tape w.drawn (.nanBits .f64 x x))

theorem run_sqrt (P : Program) (x : Nat) (w : World) : (Extern.MathSqrt.sqrt #[.float .f64 x]).run P w = .ok (.float .f64 (sqU w x)) (wIf (sqD x).isNone w) := by
  have h : Extern.MathSqrt.sqrt #[.float .f64 x] = (match sqD x with | some r => pure (.float .f64 r) | none => choose (.nanBits .f64 x x) >>= fun q => pure (.float .f64 q)) := rfl
  rw [h]
  unfold sqU
  cases hd : sqD x with
  | some r => rfl
  | none =>
    have hf : (Question.nanBits .f64 x x).forced = false := by rfl
    show Sem.run P (choose _ >>= _) w = _
    simp [hf, wIf]

theorem root_some {n : Nat} {a b : Datum} (h : a.root n = some b) : b.isNaN = false := by
  cases a <;> unfold Datum.root at h <;> (repeat' split at h) <;> first | (cases h; done) | (cases h; rfl)

theorem sqD_some {x r : Nat} (h : sqD x = some r) : nan64 r = false ∧ r < 2 ^ 64 := by
  have h' : ((Ieee.double.read x).root (Ieee.double.fractionBits + 2)).map Ieee.double.write = some r := h
  cases hs : (Ieee.double.read x).root (Ieee.double.fractionBits + 2) with
  | none => rw [hs] at h'; cases h'
  | some d =>
    rw [hs] at h'
    simp only [Option.map_some, Option.some.injEq] at h'
    rw [← h']
    exact write_nan d (root_some hs)

theorem cn_sqU (w : World) (x : Nat) : cn (sqU w x) = cn (sqV x) := by
  unfold sqU sqV arN
  cases h : sqD x with
  | some r => rfl
  | none => simp only; rw [cn_of_nan _ (cut_nan _ _ _), cn_of_nan _ nanNC]

def rtMore (n m : Nat) (i : Int) : Nat := (2 * n - m.log2) + ((i - ((2 * n - m.log2 : Nat) : Int)) % 2).toNat
def rtW (N : Nat) : Nat := Datum.rootFrom N (N.log2 / 2 + 1) 0
theorem root_num (n : Nat) (s : Bool) (m : Nat) (i : Int) : (Datum.number s m i).root n = if m = 0 then some (.number s m i) else if s then none else
    some (.number false (2 * rtW (m * 2 ^ rtMore n m i) + (rtW (m * 2 ^ rtMore n m i) * rtW (m * 2 ^ rtMore n m i) != m * 2 ^ rtMore n m i).toNat) ((i - (rtMore n m i : Nat)) / 2 - 1)) := by
  unfold Datum.root rtMore rtW
  simp only [Nat.shiftLeft_eq]

theorem sqD_num {b : Nat} (hf : finB b) : sqD b = if mantB b = 0 then some (wrd (negB b) (rndN 52 11 (mantB b) (-1074 + (placeB b : Nat)))) else if negB b then none else
    some (wrd false (rndN 52 11 (2 * rtW (mantB b * 2 ^ rtMore 54 (mantB b) (-1074 + (placeB b : Nat))) + (rtW (mantB b * 2 ^ rtMore 54 (mantB b) (-1074 + (placeB b : Nat))) * rtW (mantB b * 2 ^ rtMore 54 (mantB b) (-1074 + (placeB b : Nat))) != mantB b * 2 ^ rtMore 54 (mantB b) (-1074 + (placeB b : Nat))).toNat)
      ((-1074 + ((placeB b : Nat) : Int) - (rtMore 54 (mantB b) (-1074 + (placeB b : Nat)) : Nat)) / 2 - 1))) := by
  have h : sqD b = ((Ieee.double.read b).root 54).map Ieee.double.write := rfl
  rw [h, read_fin hf, root_num]
  generalize rtMore 54 (mantB b) (-1074 + (placeB b : Nat)) = t
  by_cases h0 : mantB b = 0
  · rw [if_pos h0, if_pos h0, Option.map_some, write64]
  · rw [if_neg h0, if_neg h0]
    cases negB b
    · rw [if_neg Bool.false_ne_true, if_neg Bool.false_ne_true, Option.map_some, write64]
    · rw [if_pos rfl, if_pos rfl, Option.map_none]

/-- The root of a number from 0 on, in units of 2^-1074. -/
theorem sqV_num (b : Nat) (hf : finB b) (h0 : mantB b ≠ 0) (hg : negB b = false) (t w : Nat) (hp : ((placeB b : Int) - 1074 - t) % 2 = 0) (hb : 110 - (mantB b).log2 ≤ t) (hr : Root (mantB b * 2 ^ t) w) :
    sqV b = rndN 52 11 (2 * w + stk (mantB b * 2 ^ t) w) (((placeB b : Int) - 1074 - t) / 2 - 1) := by
  have hlog := log_lt h0
  have hd := sqD_num hf
  rw [if_neg h0, hg, if_neg Bool.false_ne_true] at hd
  unfold sqV
  rw [hd]
  clear hd
  show wrd false _ = _
  unfold wrd
  rw [if_neg Bool.false_ne_true]
  obtain ⟨m1, hm1⟩ : ∃ m1, m1 = rtMore 54 (mantB b) (-1074 + (placeB b : Nat)) := ⟨_, rfl⟩
  rw [← hm1]
  unfold rtMore at hm1
  have hw : Root (mantB b * 2 ^ m1) (rtW (mantB b * 2 ^ m1)) := root_whole _
  generalize rtW (mantB b * 2 ^ m1) = v at *
  obtain ⟨a, ha⟩ : ∃ a, t = m1 + 2 * a := ⟨(t - m1) / 2, by omega⟩
  have hN : mantB b * 2 ^ t = mantB b * 2 ^ m1 * 4 ^ a := by
    rw [ha, Nat.pow_add, Nat.pow_mul, ← Nat.mul_assoc]
  rw [hN] at hr ⊢
  have hbig : 2 ^ (52 + 1) ≤ v := by
    have h1 := Nat.log2_self_le h0
    have h2 : 2 ^ (mantB b).log2 * 2 ^ m1 ≤ mantB b * 2 ^ m1 := Nat.mul_le_mul_right _ h1
    rw [← Nat.pow_add] at h2
    have h3 : 2 ^ 106 ≤ 2 ^ ((mantB b).log2 + m1) := Nat.pow_le_pow_right (by omega) (by omega)
    have h4 := hw.2
    refine Nat.le_of_lt_succ (sq_lt (a := 2 ^ 53) (b := v + 1) ?_)
    have h5 : (2 : Nat) ^ 53 * 2 ^ 53 = 2 ^ 106 := by rw [← Nat.pow_add]
    rw [h5]
    exact Nat.lt_of_le_of_lt (Nat.le_trans h3 h2) h4
  have := root_more (f := 52) (e := 11) (E := ((placeB b : Int) - 1074 - (m1 : Int)) / 2 - 1) hw hr hbig
  generalize mantB b * 2 ^ m1 = N at *
  have hst : stk N v = (v * v != N).toNat := by
    unfold stk
    by_cases h : v * v = N
    · rw [if_pos h, h]; simp
    · rw [if_neg h]
      have : (v * v != N) = true := by simpa using h
      rw [this]; rfl
  rw [hst] at this
  rw [show -1074 + ((placeB b : Nat) : Int) - (m1 : Int) = (placeB b : Int) - 1074 - (m1 : Int) by omega, ← this]
  congr 1
  omega

theorem sqV_zero (b : Nat) (hb : b < 2 ^ 64) (h : mantB b = 0) : sqV b = b := by
  have hz := mant_zero.1 h
  have hf : finB b := ⟨hb, by unfold nan64; rw [hz]; rfl, by unfold infB; rw [hz]; rfl⟩
  have hd := sqD_num hf
  rw [if_pos h] at hd
  unfold sqV
  rw [hd]
  show wrd _ _ = b
  rw [rnd_read b hb hf.2.1 hf.2.2, wrd_mod b hb]

theorem sqV_inf (b : Nat) (hb : b < 2 ^ 64) (hn : nan64 b = false) (hi : infB b = true) : sqV b = if negB b then NC else b := by
  have hd : sqD b = if negB b then none else some b := by
    show ((Ieee.double.read b).root (Ieee.double.fractionBits + 2)).map Ieee.double.write = _
    rw [read64 b hb, hn, hi]
    simp only [Bool.false_eq_true, if_false, if_true]
    unfold Datum.root
    cases hg : negB b
    · simp only [Bool.false_eq_true, if_false, Option.map_some]
      congr 1
      show Ieee.double.word false Ieee.double.infRung = b
      rw [word64, ir64]
      have := wrd_mod b hb
      unfold infB at hi
      rw [hg, of_decide_eq_true hi] at this
      exact this
    · rfl
  unfold sqV arN
  rw [hd]
  cases negB b <;> rfl

theorem sqV_nan (b : Nat) (hb : b < 2 ^ 64) (hn : nan64 b = true) : sqV b = NC := by
  have hd : sqD b = none := by
    show ((Ieee.double.read b).root (Ieee.double.fractionBits + 2)).map Ieee.double.write = _
    rw [read64 b hb, hn]; rfl
  unfold sqV arN
  rw [hd]

theorem sqV_neg (b : Nat) (hf : finB b) (h0 : mantB b ≠ 0) (hg : negB b = true) : sqV b = NC := by
  have hd := sqD_num hf
  rw [if_neg h0, hg, if_pos rfl] at hd
  unfold sqV arN
  rw [hd]
end Go.Pst
