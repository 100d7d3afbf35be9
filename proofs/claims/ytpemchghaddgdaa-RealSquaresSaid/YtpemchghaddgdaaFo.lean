/- Go's math.Remainder. Condition: the bits fit. -/
import Derived.Test.YtpemchghaddgdaaFn
import Derived.Test.YtpemchghaddgdaaHb
import Derived.Test.YtpemchghaddgdaaRx
namespace Go.Pst
open Go Ieee Go.RowKit
set_option linter.unusedVariables false
set_option linter.unusedSimpArgs false

/-- What is left of X when the nearest multiple of Y is taken off; of two that are as near, the even one. -/
def remT (X Y : Int) : Int := if 2 * (X % (2 * Y)) ≤ Y then X % (2 * Y) else if 2 * (X % (2 * Y)) < 3 * Y then X % (2 * Y) - Y else X % (2 * Y) - 2 * Y

def remB (a b : Nat) : Nat :=
  if nan64 a || nan64 b || infB a || decide (mantB b = 0) then NC
  else if infB b then a
  else wrd (if remT (magN a) (magN b) = 0 then negB a else (decide (remT (magN a) (magN b) < 0) ^^ negB a)) (rz (remT (magN a) (magN b)).natAbs)

theorem rep_dbl {y : Nat} (hy : finB y) (h : magN y < 2 ^ 60) : Rep (2 * magN y) := by
  refine rep_twice hy ?_
  rcases Nat.lt_or_ge 9214364837600034815 (y % 9223372036854775808) with h1 | h1
  · exfalso
    have hlt := fin_lt hy
    have he : expF y = 2046 := by unfold expF; omega
    have hm : 2 ^ 52 ≤ mantB y := (mant_norm (by omega)).1
    have hp : placeB y = 2045 := by unfold placeB; rw [he]
    have h2 : 2 ^ 52 * 2 ^ 10 ≤ mantB y * 2 ^ placeB y := Nat.mul_le_mul hm (Nat.pow_le_pow_right (by omega) (by omega))
    unfold magN at h
    omega
  · exact h1

theorem wrd_zF {u : Nat} {T : Int} {n : Bool} (hf : finB u) (hv : (valZ u).natAbs = T.natAbs) (hn : negB u = n) : u = wrd n (rz T.natAbs) := by
  rw [← hv, ← mag_abs, ← hn]
  exact zF_of hf
theorem ge_fin {x y : Nat} (hx : finB x) (hy : finB y) : (fgt .f64 x y || feq .f64 x y) = decide (valZ y ≤ valZ x) := by
  rw [fgt_fin hx hy, feq_fin hx hy, Bool.eq_iff_iff]
  simp only [Bool.or_eq_true, decide_eq_true_eq]
  omega
theorem le_fin {x y : Nat} (hx : finB x) (hy : finB y) : (flt .f64 x y || feq .f64 x y) = decide (valZ x ≤ valZ y) := by
  rw [flt_fin hx hy, feq_fin hx hy, Bool.eq_iff_iff]
  simp only [Bool.or_eq_true, decide_eq_true_eq]
  omega
end Go.Pst
namespace Go.Proofs.Ytpemchghaddgdaa
open Go.RowKit Go.Pst
set_option maxRecDepth 100000
set_option linter.unusedSimpArgs false
set_option linter.unusedVariables false
theorem run_neg64' (P : Program) (b : Nat) (w : World) : Sem.run P (Op.unary .neg (.float .f64 b)) w = .ok (.float .f64 (flipB b)) w := rfl
attribute [local go_sem] run_neg64' run_fsub run_fadd run_fmul

theorem flip_fin {b : Nat} (h : finB b) : finB (flipB b) ∧ valZ (flipB b) = -valZ b ∧ negB (flipB b) = !negB b := by
  have he := flipB_eq b h.1
  have hm : flipB b % 9223372036854775808 = b % 9223372036854775808 := by rw [he]; split <;> omega
  have hn : negB (flipB b) = !negB b := by
    have h64 := h.1
    unfold negB
    by_cases hh : b < 9223372036854775808
    · have e1 : flipB b = b + 9223372036854775808 := by rw [he, if_pos hh]
      rw [e1, show decide (9223372036854775808 ≤ b) = false from decide_eq_false (by omega)]
      exact decide_eq_true (by omega)
    · have e1 : flipB b = b - 9223372036854775808 := by rw [he, if_neg hh]
      rw [e1, show decide (9223372036854775808 ≤ b) = true from decide_eq_true (by omega)]
      exact decide_eq_false (by omega)
  refine ⟨⟨by rw [he]; have := h.1; split <;> omega, by unfold nan64; rw [hm]; exact h.2.1, by unfold infB; rw [hm]; exact h.2.2⟩, ?_, hn⟩
  unfold valZ
  rw [hm, hn]
  cases negB b <;> simp

def RemPost (v : Nat) (w : World) (en : Ending) (w' : World) : Prop := ∃ u, en = .returned (.float .f64 u) ∧ cn u = cn v ∧ Below w.heap.size w w'

/-- What the walk needs of the numbers behind Mod. -/
structure RemF (x2 y1 : Nat) (Z Y : Int) (n : Bool) : Prop where
  fx : finB x2
  fy : finB y1
  vx : valZ x2 = Z
  vy : valZ y1 = Y
  nx : negB x2 = n
  hZ : 0 ≤ Z ∧ Z < 2 * Y
  hn : 0 < Z → n = false

/-- The three ways. -/
theorem rem_ways {x2 y1 : Nat} {Z Y : Int} {n : Bool} (h : RemF x2 y1 Z Y n) :
    (2 * Z ≤ Y) ∨ (∃ x3, Y < 2 * Z ∧ 2 * Z < 3 * Y ∧ arD .sub x2 y1 = some x3 ∧ finB x3 ∧ valZ x3 = Z - Y ∧ negB x3 = decide (Z - Y < 0)) ∨
    (∃ x3 x4, 3 * Y ≤ 2 * Z ∧ arD .sub x2 y1 = some x3 ∧ finB x3 ∧ valZ x3 = Z - Y ∧ arD .sub x3 y1 = some x4 ∧ finB x4 ∧ valZ x4 = Z - 2 * Y ∧ negB x4 = decide (Z - 2 * Y < 0)) := by
  obtain ⟨fx, fy, vx, vy, nx, ⟨hZ0, hZ1⟩, hn⟩ := h
  have mx := mag_nonneg (b := x2) (by omega)
  have my := mag_nonneg (b := y1) (by omega)
  by_cases h1 : 2 * Z ≤ Y
  · exact .inl h1
  · right
    have r1 : Rep (valZ x2 - valZ y1).natAbs := rep_diff fx fy (by omega) (by omega) _ (by rw [vx, vy]; omega)
    obtain ⟨x3, e1, f3, v3, n3⟩ := sub_exact fx fy r1
    rw [vx, vy] at v3 n3
    have n3' : negB x3 = decide (Z - Y < 0) := by
      rw [n3]
      split
      · rename_i h0
        rw [nx, hn (by omega)]
        rw [h0]; rfl
      · rfl
    by_cases h2 : 2 * Z < 3 * Y
    · exact .inl ⟨x3, by omega, h2, e1, f3, v3, n3'⟩
    · right
      have m3 := mag_nonneg (b := x3) (by omega)
      have r2 : Rep (valZ x3 - valZ y1).natAbs := rep_diff f3 fy (by omega) (by omega) _ (by rw [v3, vy]; omega)
      obtain ⟨x4, e2, f4, v4, n4⟩ := sub_exact f3 fy r2
      rw [v3, vy, show Z - Y - Y = Z - 2 * Y by omega] at v4 n4
      refine ⟨x3, x4, by omega, e1, f3, v3, e2, f4, v4, ?_⟩
      rw [n4, if_neg (by omega)]

def remZ (Z Y : Int) : Int := if 2 * Z ≤ Y then Z else if 2 * Z < 3 * Y then Z - Y else Z - 2 * Y

def RemFin (s : Bool) (Z Y : Int) (n : Bool) (w : World) (en : Ending) (w' : World) : Prop :=
  ∃ r, en = .returned (.float .f64 (if s then flipB r else r)) ∧ finB r ∧ valZ r = remZ Z Y ∧ negB r = (if 2 * Z ≤ Y then n else decide (remZ Z Y < 0)) ∧ w = w'


set_option maxHeartbeats 4000000 in
theorem rem_big (x y x1 y1 x2 d : Nat) (s t n : Bool) (Z Y : Int) (w : World)
    (hI : ∀ w, Calls Try.prog 82 #[.float .f64 x, .int .i64 0] w fun en w' => en = .returned (.bool false) ∧ w = w')
    (hID : ∀ w, Calls Try.prog 82 #[.float .f64 y, .int .i64 0] w fun en w' => en = .returned (.bool false) ∧ w = w')
    (hN : ∀ w, Calls Try.prog 112 #[.float .f64 x] w fun en w' => en = .returned (.bool false) ∧ w = w')
    (hND : ∀ w, Calls Try.prog 112 #[.float .f64 y] w fun en w' => en = .returned (.bool false) ∧ w = w')
    (hs : flt .f64 x 0 = s) (ht : flt .f64 y 0 = t) (hy0 : feq .f64 y 0 = false) (hx1 : (if s then flipB x else x) = x1) (hy1 : (if t then flipB y else y) = y1)
    (he : feq .f64 x1 y1 = false) (hR : RemF x2 y1 Z Y n) (hx2 : x2 = x1) (hle : (flt .f64 y1 9214364837600034815 || feq .f64 y1 9214364837600034815) = false) (hti : flt .f64 y1 9007199254740992 = false) (h : Nat) (eh : arD .mul 4602678819172646912 y1 = some h) (fh : finB h) (vh : 2 * valZ h = Y) :
    Calls Try.prog 109 #[.float .f64 x, .float .f64 y] w (RemFin s Z Y n w) := by
  have HI := Lib.hid hI; have HID := Lib.hid hID; have HN := Lib.hid hN; have HND := Lib.hid hND
  have hw := wIf_off
  clear hI hID hN hND
  have uh := arU_some eh; have zh := arN_some eh; subst hx2
  have hzz := hR.hZ
  rcases rem_ways hR with h1 | ⟨x3, h1, h2, e1, f3, v3, n3⟩ | ⟨x3, x4, h1, e1, f3, v3, e2, f4, v4, n4⟩
  · have HS : Hid (finB x2 ∧ valZ x2 = remZ Z Y ∧ negB x2 = (if 2 * Z ≤ Y then n else decide (remZ Z Y < 0))) := Lib.hid ⟨hR.fx, by rw [hR.vx]; unfold remZ; rw [if_pos h1], by rw [hR.nx, if_pos h1]⟩
    have t1 : fgt .f64 x2 h = false := by rw [fgt_fin hR.fx fh, hR.vx]; first | (refine decide_eq_false ?_; omega) | (refine decide_eq_true ?_; omega)
    clear eh fh vh
    clear hzz hR h1
    cases s <;> cases t <;> simp only [Bool.false_eq_true, if_false, if_true] at hx1 hy1 ⊢ <;> (try subst hx1) <;> (try subst hy1) <;>
    ·
      go_enter Try.func109, Try.ntmps109
      go_wp2_with fail
      refine (HN.out _).mono ?_
      rintro en w' ⟨rfl, rfl⟩
      go_wp2_with fail
      refine (HND.out _).mono ?_
      rintro en w' ⟨rfl, rfl⟩
      go_wp2_with fail
      refine (HI.out _).mono ?_
      rintro en w' ⟨rfl, rfl⟩
      go_wp2_with fail
      refine (HID.out _).mono ?_
      rintro en w' ⟨rfl, rfl⟩
      go_wp2_with fail
      skip
      go_ret
      exact ⟨_, rfl, HS.out.1, HS.out.2.1, HS.out.2.2, rfl⟩
  · have HS : Hid (finB x3 ∧ valZ x3 = remZ Z Y ∧ negB x3 = (if 2 * Z ≤ Y then n else decide (remZ Z Y < 0))) := Lib.hid ⟨f3, by rw [v3]; unfold remZ; rw [if_neg (by omega), if_pos h2], by rw [n3, if_neg (by omega)]; unfold remZ; rw [if_neg (by omega), if_pos h2]⟩
    have t1 : fgt .f64 x2 h = true := by rw [fgt_fin hR.fx fh, hR.vx]; first | (refine decide_eq_false ?_; omega) | (refine decide_eq_true ?_; omega)
    skip
    have t2 : (fgt .f64 x3 h || feq .f64 x3 h) = false := by rw [ge_fin f3 fh, v3]; first | (refine decide_eq_false ?_; omega) | (refine decide_eq_true ?_; omega)
    have u1 := arU_some e1
    have z1 := arN_some e1
    clear eh fh vh
    clear hzz hR h1 h2 e1 f3 v3 n3
    cases s <;> cases t <;> simp only [Bool.false_eq_true, if_false, if_true] at hx1 hy1 ⊢ <;> (try subst hx1) <;> (try subst hy1) <;>
    ·
      go_enter Try.func109, Try.ntmps109
      go_wp2_with fail
      refine (HN.out _).mono ?_
      rintro en w' ⟨rfl, rfl⟩
      go_wp2_with fail
      refine (HND.out _).mono ?_
      rintro en w' ⟨rfl, rfl⟩
      go_wp2_with fail
      refine (HI.out _).mono ?_
      rintro en w' ⟨rfl, rfl⟩
      go_wp2_with fail
      refine (HID.out _).mono ?_
      rintro en w' ⟨rfl, rfl⟩
      go_wp2_with fail
      skip
      go_ret
      exact ⟨_, rfl, HS.out.1, HS.out.2.1, HS.out.2.2, rfl⟩
  · have HS : Hid (finB x4 ∧ valZ x4 = remZ Z Y ∧ negB x4 = (if 2 * Z ≤ Y then n else decide (remZ Z Y < 0))) := Lib.hid ⟨f4, by rw [v4]; unfold remZ; rw [if_neg (by have := hR.hZ; omega), if_neg (by omega)], by rw [n4, if_neg (by have := hR.hZ; omega)]; unfold remZ; rw [if_neg (by have := hR.hZ; omega), if_neg (by omega)]⟩
    have t1 : fgt .f64 x2 h = true := by rw [fgt_fin hR.fx fh, hR.vx]; first | (refine decide_eq_false ?_; omega) | (refine decide_eq_true ?_; omega)
    skip
    have t2 : (fgt .f64 x3 h || feq .f64 x3 h) = true := by rw [ge_fin f3 fh, v3]; first | (refine decide_eq_false ?_; omega) | (refine decide_eq_true ?_; omega)
    have u1 := arU_some e1
    have z1 := arN_some e1
    have u2 := arU_some e2
    have z2 := arN_some e2
    clear eh fh vh
    clear hzz hR h1 e1 f3 v3 e2 f4 v4 n4
    cases s <;> cases t <;> simp only [Bool.false_eq_true, if_false, if_true] at hx1 hy1 ⊢ <;> (try subst hx1) <;> (try subst hy1) <;>
    ·
      go_enter Try.func109, Try.ntmps109
      go_wp2_with fail
      refine (HN.out _).mono ?_
      rintro en w' ⟨rfl, rfl⟩
      go_wp2_with fail
      refine (HND.out _).mono ?_
      rintro en w' ⟨rfl, rfl⟩
      go_wp2_with fail
      refine (HI.out _).mono ?_
      rintro en w' ⟨rfl, rfl⟩
      go_wp2_with fail
      refine (HID.out _).mono ?_
      rintro en w' ⟨rfl, rfl⟩
      go_wp2_with fail
      skip
      go_ret
      exact ⟨_, rfl, HS.out.1, HS.out.2.1, HS.out.2.2, rfl⟩
set_option maxHeartbeats 4000000 in
theorem rem_nor (x y x1 y1 x2 d : Nat) (s t n : Bool) (Z Y : Int) (w : World)
    (hI : ∀ w, Calls Try.prog 82 #[.float .f64 x, .int .i64 0] w fun en w' => en = .returned (.bool false) ∧ w = w')
    (hID : ∀ w, Calls Try.prog 82 #[.float .f64 y, .int .i64 0] w fun en w' => en = .returned (.bool false) ∧ w = w')
    (hN : ∀ w, Calls Try.prog 112 #[.float .f64 x] w fun en w' => en = .returned (.bool false) ∧ w = w')
    (hND : ∀ w, Calls Try.prog 112 #[.float .f64 y] w fun en w' => en = .returned (.bool false) ∧ w = w')
    (hs : flt .f64 x 0 = s) (ht : flt .f64 y 0 = t) (hy0 : feq .f64 y 0 = false) (hx1 : (if s then flipB x else x) = x1) (hy1 : (if t then flipB y else y) = y1)
    (he : feq .f64 x1 y1 = false) (hR : RemF x2 y1 Z Y n) (hle : (flt .f64 y1 9214364837600034815 || feq .f64 y1 9214364837600034815) = true) (ed : arD .add y1 y1 = some d) (hmo : ∀ w, Calls Try.prog 114 #[.float .f64 x1, .float .f64 d] w fun en w' => en = .returned (.float .f64 x2) ∧ w = w') (hti : flt .f64 y1 9007199254740992 = false) (h : Nat) (eh : arD .mul 4602678819172646912 y1 = some h) (fh : finB h) (vh : 2 * valZ h = Y) :
    Calls Try.prog 109 #[.float .f64 x, .float .f64 y] w (RemFin s Z Y n w) := by
  have HI := Lib.hid hI; have HID := Lib.hid hID; have HN := Lib.hid hN; have HND := Lib.hid hND
  have hw := wIf_off
  clear hI hID hN hND
  have uh := arU_some eh; have zh := arN_some eh; have ud := arU_some ed; have zd := arN_some ed; have HMO := Lib.hid hmo; clear hmo ed
  have hzz := hR.hZ
  rcases rem_ways hR with h1 | ⟨x3, h1, h2, e1, f3, v3, n3⟩ | ⟨x3, x4, h1, e1, f3, v3, e2, f4, v4, n4⟩
  · have HS : Hid (finB x2 ∧ valZ x2 = remZ Z Y ∧ negB x2 = (if 2 * Z ≤ Y then n else decide (remZ Z Y < 0))) := Lib.hid ⟨hR.fx, by rw [hR.vx]; unfold remZ; rw [if_pos h1], by rw [hR.nx, if_pos h1]⟩
    have t1 : fgt .f64 x2 h = false := by rw [fgt_fin hR.fx fh, hR.vx]; first | (refine decide_eq_false ?_; omega) | (refine decide_eq_true ?_; omega)
    clear eh fh vh
    clear hzz hR h1
    cases s <;> cases t <;> simp only [Bool.false_eq_true, if_false, if_true] at hx1 hy1 ⊢ <;> (try subst hx1) <;> (try subst hy1) <;>
    ·
      go_enter Try.func109, Try.ntmps109
      go_wp2_with fail
      refine (HN.out _).mono ?_
      rintro en w' ⟨rfl, rfl⟩
      go_wp2_with fail
      refine (HND.out _).mono ?_
      rintro en w' ⟨rfl, rfl⟩
      go_wp2_with fail
      refine (HI.out _).mono ?_
      rintro en w' ⟨rfl, rfl⟩
      go_wp2_with fail
      refine (HID.out _).mono ?_
      rintro en w' ⟨rfl, rfl⟩
      go_wp2_with fail
      refine (HMO.out _).mono ?_
      rintro en w' ⟨rfl, rfl⟩
      go_wp2_with fail
      go_ret
      exact ⟨_, rfl, HS.out.1, HS.out.2.1, HS.out.2.2, rfl⟩
  · have HS : Hid (finB x3 ∧ valZ x3 = remZ Z Y ∧ negB x3 = (if 2 * Z ≤ Y then n else decide (remZ Z Y < 0))) := Lib.hid ⟨f3, by rw [v3]; unfold remZ; rw [if_neg (by omega), if_pos h2], by rw [n3, if_neg (by omega)]; unfold remZ; rw [if_neg (by omega), if_pos h2]⟩
    have t1 : fgt .f64 x2 h = true := by rw [fgt_fin hR.fx fh, hR.vx]; first | (refine decide_eq_false ?_; omega) | (refine decide_eq_true ?_; omega)
    skip
    have t2 : (fgt .f64 x3 h || feq .f64 x3 h) = false := by rw [ge_fin f3 fh, v3]; first | (refine decide_eq_false ?_; omega) | (refine decide_eq_true ?_; omega)
    have u1 := arU_some e1
    have z1 := arN_some e1
    clear eh fh vh
    clear hzz hR h1 h2 e1 f3 v3 n3
    cases s <;> cases t <;> simp only [Bool.false_eq_true, if_false, if_true] at hx1 hy1 ⊢ <;> (try subst hx1) <;> (try subst hy1) <;>
    ·
      go_enter Try.func109, Try.ntmps109
      go_wp2_with fail
      refine (HN.out _).mono ?_
      rintro en w' ⟨rfl, rfl⟩
      go_wp2_with fail
      refine (HND.out _).mono ?_
      rintro en w' ⟨rfl, rfl⟩
      go_wp2_with fail
      refine (HI.out _).mono ?_
      rintro en w' ⟨rfl, rfl⟩
      go_wp2_with fail
      refine (HID.out _).mono ?_
      rintro en w' ⟨rfl, rfl⟩
      go_wp2_with fail
      refine (HMO.out _).mono ?_
      rintro en w' ⟨rfl, rfl⟩
      go_wp2_with fail
      go_ret
      exact ⟨_, rfl, HS.out.1, HS.out.2.1, HS.out.2.2, rfl⟩
  · have HS : Hid (finB x4 ∧ valZ x4 = remZ Z Y ∧ negB x4 = (if 2 * Z ≤ Y then n else decide (remZ Z Y < 0))) := Lib.hid ⟨f4, by rw [v4]; unfold remZ; rw [if_neg (by have := hR.hZ; omega), if_neg (by omega)], by rw [n4, if_neg (by have := hR.hZ; omega)]; unfold remZ; rw [if_neg (by have := hR.hZ; omega), if_neg (by omega)]⟩
    have t1 : fgt .f64 x2 h = true := by rw [fgt_fin hR.fx fh, hR.vx]; first | (refine decide_eq_false ?_; omega) | (refine decide_eq_true ?_; omega)
    skip
    have t2 : (fgt .f64 x3 h || feq .f64 x3 h) = true := by rw [ge_fin f3 fh, v3]; first | (refine decide_eq_false ?_; omega) | (refine decide_eq_true ?_; omega)
    have u1 := arU_some e1
    have z1 := arN_some e1
    have u2 := arU_some e2
    have z2 := arN_some e2
    clear eh fh vh
    clear hzz hR h1 e1 f3 v3 e2 f4 v4 n4
    cases s <;> cases t <;> simp only [Bool.false_eq_true, if_false, if_true] at hx1 hy1 ⊢ <;> (try subst hx1) <;> (try subst hy1) <;>
    ·
      go_enter Try.func109, Try.ntmps109
      go_wp2_with fail
      refine (HN.out _).mono ?_
      rintro en w' ⟨rfl, rfl⟩
      go_wp2_with fail
      refine (HND.out _).mono ?_
      rintro en w' ⟨rfl, rfl⟩
      go_wp2_with fail
      refine (HI.out _).mono ?_
      rintro en w' ⟨rfl, rfl⟩
      go_wp2_with fail
      refine (HID.out _).mono ?_
      rintro en w' ⟨rfl, rfl⟩
      go_wp2_with fail
      refine (HMO.out _).mono ?_
      rintro en w' ⟨rfl, rfl⟩
      go_wp2_with fail
      go_ret
      exact ⟨_, rfl, HS.out.1, HS.out.2.1, HS.out.2.2, rfl⟩
set_option maxHeartbeats 4000000 in
theorem rem_tin (x y x1 y1 x2 d : Nat) (s t n : Bool) (Z Y : Int) (w : World)
    (hI : ∀ w, Calls Try.prog 82 #[.float .f64 x, .int .i64 0] w fun en w' => en = .returned (.bool false) ∧ w = w')
    (hID : ∀ w, Calls Try.prog 82 #[.float .f64 y, .int .i64 0] w fun en w' => en = .returned (.bool false) ∧ w = w')
    (hN : ∀ w, Calls Try.prog 112 #[.float .f64 x] w fun en w' => en = .returned (.bool false) ∧ w = w')
    (hND : ∀ w, Calls Try.prog 112 #[.float .f64 y] w fun en w' => en = .returned (.bool false) ∧ w = w')
    (hs : flt .f64 x 0 = s) (ht : flt .f64 y 0 = t) (hy0 : feq .f64 y 0 = false) (hx1 : (if s then flipB x else x) = x1) (hy1 : (if t then flipB y else y) = y1)
    (he : feq .f64 x1 y1 = false) (hR : RemF x2 y1 Z Y n) (hle : (flt .f64 y1 9214364837600034815 || feq .f64 y1 9214364837600034815) = true) (ed : arD .add y1 y1 = some d) (hmo : ∀ w, Calls Try.prog 114 #[.float .f64 x1, .float .f64 d] w fun en w' => en = .returned (.float .f64 x2) ∧ w = w') (hti : flt .f64 y1 9007199254740992 = true) (h : Nat) (eh : arD .add x2 x2 = some h) (fh : finB h) (vh : valZ h = 2 * Z) (h3 : ∀ x3, finB x3 → valZ x3 = Z - Y → ∃ g, arD .add x3 x3 = some g ∧ finB g ∧ valZ g = 2 * (Z - Y)) :
    Calls Try.prog 109 #[.float .f64 x, .float .f64 y] w (RemFin s Z Y n w) := by
  have HI := Lib.hid hI; have HID := Lib.hid hID; have HN := Lib.hid hN; have HND := Lib.hid hND
  have hw := wIf_off
  clear hI hID hN hND
  have uh := arU_some eh; have zh := arN_some eh; have ud := arU_some ed; have zd := arN_some ed; have HMO := Lib.hid hmo; clear hmo ed
  have hzz := hR.hZ
  rcases rem_ways hR with h1 | ⟨x3, h1, h2, e1, f3, v3, n3⟩ | ⟨x3, x4, h1, e1, f3, v3, e2, f4, v4, n4⟩
  · have HS : Hid (finB x2 ∧ valZ x2 = remZ Z Y ∧ negB x2 = (if 2 * Z ≤ Y then n else decide (remZ Z Y < 0))) := Lib.hid ⟨hR.fx, by rw [hR.vx]; unfold remZ; rw [if_pos h1], by rw [hR.nx, if_pos h1]⟩
    have t1 : fgt .f64 h y1 = false := by rw [fgt_fin fh hR.fy, hR.vy]; first | (refine decide_eq_false ?_; omega) | (refine decide_eq_true ?_; omega)
    clear eh fh vh h3; (try clear eg fg vg)
    clear hzz hR h1
    cases s <;> cases t <;> simp only [Bool.false_eq_true, if_false, if_true] at hx1 hy1 ⊢ <;> (try subst hx1) <;> (try subst hy1) <;>
    ·
      go_enter Try.func109, Try.ntmps109
      go_wp2_with fail
      refine (HN.out _).mono ?_
      rintro en w' ⟨rfl, rfl⟩
      go_wp2_with fail
      refine (HND.out _).mono ?_
      rintro en w' ⟨rfl, rfl⟩
      go_wp2_with fail
      refine (HI.out _).mono ?_
      rintro en w' ⟨rfl, rfl⟩
      go_wp2_with fail
      refine (HID.out _).mono ?_
      rintro en w' ⟨rfl, rfl⟩
      go_wp2_with fail
      refine (HMO.out _).mono ?_
      rintro en w' ⟨rfl, rfl⟩
      go_wp2_with fail
      go_ret
      exact ⟨_, rfl, HS.out.1, HS.out.2.1, HS.out.2.2, rfl⟩
  · have HS : Hid (finB x3 ∧ valZ x3 = remZ Z Y ∧ negB x3 = (if 2 * Z ≤ Y then n else decide (remZ Z Y < 0))) := Lib.hid ⟨f3, by rw [v3]; unfold remZ; rw [if_neg (by omega), if_pos h2], by rw [n3, if_neg (by omega)]; unfold remZ; rw [if_neg (by omega), if_pos h2]⟩
    have t1 : fgt .f64 h y1 = true := by rw [fgt_fin fh hR.fy, hR.vy]; first | (refine decide_eq_false ?_; omega) | (refine decide_eq_true ?_; omega)
    obtain ⟨g, eg, fg, vg⟩ := h3 x3 f3 v3; have ug := arU_some eg; have zg := arN_some eg
    have t2 : (fgt .f64 g y1 || feq .f64 g y1) = false := by rw [ge_fin fg hR.fy, hR.vy]; first | (refine decide_eq_false ?_; omega) | (refine decide_eq_true ?_; omega)
    have u1 := arU_some e1
    have z1 := arN_some e1
    clear eh fh vh h3; (try clear eg fg vg)
    clear hzz hR h1 h2 e1 f3 v3 n3
    cases s <;> cases t <;> simp only [Bool.false_eq_true, if_false, if_true] at hx1 hy1 ⊢ <;> (try subst hx1) <;> (try subst hy1) <;>
    ·
      go_enter Try.func109, Try.ntmps109
      go_wp2_with fail
      refine (HN.out _).mono ?_
      rintro en w' ⟨rfl, rfl⟩
      go_wp2_with fail
      refine (HND.out _).mono ?_
      rintro en w' ⟨rfl, rfl⟩
      go_wp2_with fail
      refine (HI.out _).mono ?_
      rintro en w' ⟨rfl, rfl⟩
      go_wp2_with fail
      refine (HID.out _).mono ?_
      rintro en w' ⟨rfl, rfl⟩
      go_wp2_with fail
      refine (HMO.out _).mono ?_
      rintro en w' ⟨rfl, rfl⟩
      go_wp2_with fail
      go_ret
      exact ⟨_, rfl, HS.out.1, HS.out.2.1, HS.out.2.2, rfl⟩
  · have HS : Hid (finB x4 ∧ valZ x4 = remZ Z Y ∧ negB x4 = (if 2 * Z ≤ Y then n else decide (remZ Z Y < 0))) := Lib.hid ⟨f4, by rw [v4]; unfold remZ; rw [if_neg (by have := hR.hZ; omega), if_neg (by omega)], by rw [n4, if_neg (by have := hR.hZ; omega)]; unfold remZ; rw [if_neg (by have := hR.hZ; omega), if_neg (by omega)]⟩
    have t1 : fgt .f64 h y1 = true := by rw [fgt_fin fh hR.fy, hR.vy]; first | (refine decide_eq_false ?_; omega) | (refine decide_eq_true ?_; omega)
    obtain ⟨g, eg, fg, vg⟩ := h3 x3 f3 v3; have ug := arU_some eg; have zg := arN_some eg
    have t2 : (fgt .f64 g y1 || feq .f64 g y1) = true := by rw [ge_fin fg hR.fy, hR.vy]; first | (refine decide_eq_false ?_; omega) | (refine decide_eq_true ?_; omega)
    have u1 := arU_some e1
    have z1 := arN_some e1
    have u2 := arU_some e2
    have z2 := arN_some e2
    clear eh fh vh h3; (try clear eg fg vg)
    clear hzz hR h1 e1 f3 v3 e2 f4 v4 n4
    cases s <;> cases t <;> simp only [Bool.false_eq_true, if_false, if_true] at hx1 hy1 ⊢ <;> (try subst hx1) <;> (try subst hy1) <;>
    ·
      go_enter Try.func109, Try.ntmps109
      go_wp2_with fail
      refine (HN.out _).mono ?_
      rintro en w' ⟨rfl, rfl⟩
      go_wp2_with fail
      refine (HND.out _).mono ?_
      rintro en w' ⟨rfl, rfl⟩
      go_wp2_with fail
      refine (HI.out _).mono ?_
      rintro en w' ⟨rfl, rfl⟩
      go_wp2_with fail
      refine (HID.out _).mono ?_
      rintro en w' ⟨rfl, rfl⟩
      go_wp2_with fail
      refine (HMO.out _).mono ?_
      rintro en w' ⟨rfl, rfl⟩
      go_wp2_with fail
      go_ret
      exact ⟨_, rfl, HS.out.1, HS.out.2.1, HS.out.2.2, rfl⟩

end Go.Proofs.Ytpemchghaddgdaa
