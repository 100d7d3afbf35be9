/- total: awake, same, the mean, the document's mean: walks. Condition: at most 65536 numbers of 64 bits. · total: two numbers, halves of a number, and what was lost: walks; the document's. No condition. · total: the sum in order, of products, polynomials: walks; the document's. Condition: at most 65536 numbers of 64 bits. · total: polynomials: walks; the document's. Condition: at most 65536 numbers. · The exact sum has no order, plain: turned about, in two halves that change places, with noughts put in. No condition. · total: a row of floats that is made by append: words for the memory. No condition. · Numbers and their negatives, plain: the exact sum is 0. No condition. · The exact sum of two finite numbers is their sum, plain. No condition. -/
import Derived.Test.YtjakjnmfndfehaaDc
import Derived.Deep.AppendLies
namespace Go.Pst
open Go Ieee Go.Proofs.Ytjakjnmfndfehaa
set_option linter.unusedVariables false
theorem floatInt_fl (n : Nat) : floatOfInt .f64 (n : Int) = fl n := by
  have h := near_fl (n : Int)
  have e : floatOfInt .f64 (n : Int) = FloatKind.f64.nearest (n : Int) := rfl
  rw [e, h, decide_eq_false (by omega), Int.natAbs_natCast]
  unfold wrd
  rw [if_neg (by simp)]
theorem cn_rexV (f : Nat → Nat) (n : Nat) : cn (rexV f n) = cn (exactV f n) := by
  unfold rexV
  cases h : exN f n || (exP f n && exL f n)
  · rw [if_neg Bool.false_ne_true]
  · rw [if_pos rfl]
    unfold exactV exV
    rw [h, if_pos rfl]
    decide
end Go.Pst
namespace Go.Proofs.Ytjakjnmfndfehaa
open Go.RowKit Go.Pst
set_option maxRecDepth 20000
set_option linter.unusedSimpArgs false
set_option linter.unusedVariables false
attribute [local go_sem] m64bits m64from run_fquo

theorem pSame_any (a b : Nat) (w : World) (h : cn a = cn b) : Calls Try.prog 73 #[.float .f64 a, .float .f64 b] w fun en w' => en = .returned (.bool true) ∧ w = w' := by
  have ha := fun w => pnone_any a w
  have hb := fun w => pnone_any b w
  have e1 : nan64 a = nan64 b := by rw [← cn_nan a, ← cn_nan b, h]
  rw [e1] at ha
  cases hn : nan64 b
  · rw [cn_of a (e1.trans hn), cn_of b hn] at h
    subst h
    rw [hn] at ha hb
    have HA := Lib.hid ha
    clear ha hb e1 hn
    go_enter Try.func73, Try.ntmps73
    go_wp2_with fail
    refine (HA.out _).mono ?_
    rintro en w' ⟨rfl, rfl⟩
    go_wp2_with fail
    go_ret
    exact ⟨by first | rfl | simp, rfl⟩
  · rw [hn] at ha hb
    have HA := Lib.hid ha; have HB := Lib.hid hb
    clear ha hb e1 hn h
    go_enter Try.func73, Try.ntmps73
    go_wp2_with fail
    refine (HA.out _).mono ?_
    rintro en w' ⟨rfl, rfl⟩
    go_wp2_with fail
    refine (HB.out _).mono ?_
    rintro en w' ⟨rfl, rfl⟩
    go_wp2_with fail
    go_ret
    exact ⟨by first | rfl | simp, rfl⟩
theorem psame_any (a b : Nat) (w : World) (h : cn a = cn b) : Calls Try.prog 20 #[.float .f64 a, .float .f64 b] w fun en w' => en = .returned (.bool true) ∧ w = w' := by
  have HS := Lib.hid fun w => pSame_any a b w h
  clear h
  go_enter Try.func20, Try.ntmps20
  go_wp2_with fail
  refine (HS.out _).mono ?_
  rintro en w' ⟨rfl, rfl⟩
  go_wp2_with fail
  go_ret
  exact ⟨rfl, rfl⟩

theorem ex_one : exactV (fun _ => 4607182418800017408) 2 = 4611686018427387904 := by kernel_rfl
theorem awake_any (w : World) : Calls Try.prog 15 #[] w fun en w' => en = .returned (.bool true) ∧ Below w.heap.size w w' := by
  have HE := Lib.hid fun (A : Option Addr) (c : Nat) (w : World) (h : FlAt w w.heap.size A 2 fun _ => 4607182418800017408) => exact_any 2 c A (fun _ => 4607182418800017408) w h (by omega) (fun _ _ => by omega)
  rw [ex_one] at HE
  have hq : feq .f64 4611686018427387904 4611686018427387904 = true := by decide
  go_enter Try.func15, Try.ntmps15
  go_wp2_with fail
  refine (HE.out _ _ _ fun _ => ⟨w.heap.size, 0, rfl, by simp, fun i hi => ?_⟩).mono ?_
  · rw [cell_of_row _ _ _ _ _ _ (heap_alloc_new _ _)]
    obtain rfl | rfl : i = 0 ∨ i = 1 := by omega
    · rfl
    · rfl
  rintro en w2 ⟨rfl, hb2⟩
  have HB2 := Lib.hid (((Below.refl _ _).alloc (Nat.le_refl _) _).trans (hb2.mono (by simp)))
  clear hb2
  go_wp2_with fail
  go_ret
  exact ⟨rfl, HB2.out⟩

set_option maxHeartbeats 1000000 in
theorem mean_any (n c : Nat) (A : Option Addr) (f : Nat → Nat) (w : World) (hA : FlAt w w.heap.size A n f) (hn : n ≤ 65536) (h0 : n ≠ 0) (hf : ∀ j, j < n → f j < 2 ^ 64) :
    Calls Try.prog 27 #[.slice A n c] w fun en w' => ∃ u, en = .returned (.tuple #[.float .f64 u, .int .i64 0]) ∧ cn u = arV .quo (exactV f n) (fl n) ∧ Below w.heap.size w w' := by
  have HE := Lib.hid (exact_any n c A f w hA hn hf)
  have hfl := floatInt_fl n
  have hN0 : ((n : Int) == 0) = false := by simp; omega
  generalize exactV f n = v at *
  generalize fl n = F at *
  clear hA hf hn h0
  go_enter Try.func27, Try.ntmps27
  go_wp2_with fail
  refine HE.out.mono ?_
  rintro en w2 ⟨rfl, hb2⟩
  have HB2 := Lib.hid hb2
  clear hb2
  go_wp2_with fail
  go_ret2
  exact ⟨_, rfl, cn_arU _ _ _ _, wIf_below _ _ HB2.out⟩
theorem mean_zero (c : Nat) (A : Option Addr) (w : World) :
    Calls Try.prog 27 #[.slice A 0 c] w fun en w' => en = .returned (.tuple #[.float .f64 0, .int .i64 1]) ∧ w = w' := by
  go_enter Try.func27, Try.ntmps27
  go_wp2_with fail
  go_ret2
  exact ⟨rfl, rfl⟩
set_option maxHeartbeats 1000000 in
theorem rmean_any (n c : Nat) (A : Option Addr) (f : Nat → Nat) (w : World) (hA : FlAt w w.heap.size A n f) (hn : n ≤ 65536) (hf : ∀ j, j < n → f j < 2 ^ 64) :
    Calls Try.prog 29 #[.slice A n c] w fun en w' => ∃ u, en = .returned (.float .f64 u) ∧ cn u = arV .quo (exactV f n) (fl n) ∧ Below w.heap.size w w' := by
  have HE := Lib.hid fun w hA => rexact_any n c A f w hA hn hf
  have HA := Lib.hid hA
  have hfl := floatInt_fl n
  have hcn := arV_cn .quo (cn_rexV f n) (rfl : cn (fl n) = cn (fl n))
  rw [← hcn]
  clear hcn
  generalize rexV f n = v at *
  generalize fl n = F at *
  clear hA hf hn
  go_enter Try.func29, Try.ntmps29
  go_wp2_with fail
  refine (HE.out _ HA.out).mono ?_
  rintro en w2 ⟨rfl, hb2⟩
  have HB2 := Lib.hid hb2
  clear hb2
  go_wp2_with fail
  go_ret
  exact ⟨_, rfl, cn_arU _ _ _ _, wIf_below _ _ HB2.out⟩
end Go.Proofs.Ytjakjnmfndfehaa

namespace Go.Pst
open Go Ieee Go.Proofs.Ytjakjnmfndfehaa
set_option linter.unusedVariables false
def twS (a b : Nat) : Nat := arV .add a b
def twT (a b : Nat) : Nat := arV .sub (twS a b) a
def twL (a b : Nat) : Nat := arV .add (arV .sub a (arV .sub (twS a b) (twT a b))) (arV .sub b (twT a b))
theorem cut_lt64 (q : Nat) (x y : Nat) : (Question.nanBits .f64 x y).cut q < 2 ^ 64 := by
  unfold Question.cut
  simp only
  have h1 : q % 2 = 0 ∨ q % 2 = 1 := by omega
  have h2 : q / 2 % (2 ^ 52 - 1) < 2 ^ 52 - 1 := Nat.mod_lt _ (by decide)
  generalize q / 2 % (2 ^ 52 - 1) = z at *
  omega
theorem arU_lt (op : BinOp) (w : World) (x y : Nat) : arU op w x y < 2 ^ 64 := by
  unfold arU
  cases h : arD op x y with
  | some r => exact (arD_some h).2
  | none => exact cut_lt64 _ _ _
theorem arU_of {op : BinOp} {w : World} {x y x' y' : Nat} (hx : cn x = cn x') (hy : cn y = cn y') : cn (arU op w x y) = arV op x' y' := by
  rw [cn_arU]; exact arV_cn op hx hy
theorem arU_of2 {op : BinOp} {w : World} {x y x' y' : Nat} (hx : cn x = cn x') (hy : cn y = cn y') : cn (arU op w x y) = cn (arV op x' y') := by
  rw [cn_arV]; exact arU_of hx hy
end Go.Pst
namespace Go.Proofs.Ytjakjnmfndfehaa
open Go.RowKit Go.Pst
set_option maxRecDepth 20000
set_option linter.unusedSimpArgs false
set_option linter.unusedVariables false
attribute [local go_sem] run_fadd run_fsub run_fmul

def TwoPost (x y : Nat) (w : World) (en : Ending) (w' : World) : Prop := ∃ u v, en = .returned (.tuple #[.float .f64 u, .float .f64 v]) ∧ cn u = x ∧ cn v = y ∧ Below w.heap.size w w'

set_option maxHeartbeats 1000000 in
theorem rtwo_any (a b : Nat) (w : World) : Calls Try.prog 39 #[.float .f64 a, .float .f64 b] w (TwoPost (twS a b) (twL a b) w) := by
  go_enter Try.func39, Try.ntmps39
  go_wp2_with fail
  go_ret2
  refine ⟨_, _, rfl, cn_arU _ _ _ _, ?_, ?_⟩
  · have h1 : ∀ w, cn (arU .add w a b) = cn (twS a b) := fun w => by rw [cn_arU]; unfold twS; rw [cn_arV]
    have h2 : ∀ w w2, cn (arU .sub w (arU .add w2 a b) a) = cn (twT a b) := fun w w2 => arU_of2 (h1 _) rfl
    exact arU_of (arU_of2 rfl (arU_of2 (h1 _) (h2 _ _))) (arU_of2 rfl (h2 _ _))
  · exact wIf_below _ _ (wIf_below _ _ (wIf_below _ _ (wIf_below _ _ (wIf_below _ _ (wIf_below _ _ (Below.refl _ _))))))
set_option maxHeartbeats 1000000 in
theorem two_any (a b : Nat) (w : World) : Calls Try.prog 31 #[.float .f64 a, .float .f64 b] w (TwoPost (twS a b) (twL a b) w) := by
  go_enter Try.func31, Try.ntmps31
  go_wp2_with fail
  go_ret2
  refine ⟨_, _, rfl, cn_arU _ _ _ _, ?_, ?_⟩
  · have h1 : ∀ w, cn (arU .add w a b) = cn (twS a b) := fun w => by rw [cn_arU]; unfold twS; rw [cn_arV]
    have h2 : ∀ w w2, cn (arU .sub w (arU .add w2 a b) a) = cn (twT a b) := fun w w2 => arU_of2 (h1 _) rfl
    exact arU_of (arU_of2 rfl (arU_of2 (h1 _) (h2 _ _))) (arU_of2 rfl (h2 _ _))
  · exact wIf_below _ _ (wIf_below _ _ (wIf_below _ _ (wIf_below _ _ (wIf_below _ _ (wIf_below _ _ (Below.refl _ _))))))
def spC : Nat := 4728779608772575232
def spH (a : Nat) : Nat := arV .sub (arV .mul spC a) (arV .sub (arV .mul spC a) a)
set_option maxHeartbeats 1000000 in
theorem split_any (a : Nat) (w : World) : Calls Try.prog 40 #[.float .f64 a] w (TwoPost (spH a) (arV .sub a (spH a)) w) := by
  go_enter Try.func40, Try.ntmps40
  go_wp2_with fail
  go_ret2
  have h1 : ∀ w, cn (arU .mul w spC a) = cn (arV .mul spC a) := fun w => by rw [cn_arU, cn_arV]
  have h2 : ∀ w1 w2 w3 w4, cn (arU .sub w1 (arU .mul w2 spC a) (arU .sub w3 (arU .mul w4 spC a) a)) = spH a := fun w1 w2 w3 w4 => arU_of (h1 _) (arU_of2 (h1 _) rfl)
  refine ⟨_, _, rfl, h2 _ _ _ _, ?_, ?_⟩
  · exact arU_of rfl (by rw [show cn (spH a) = spH a from cn_arV _ _ _]; exact h2 _ _ _ _)
  · exact wIf_below _ _ (wIf_below _ _ (wIf_below _ _ (wIf_below _ _ (Below.refl _ _))))
set_option maxHeartbeats 1000000 in
theorem rsplit_any (a : Nat) (w : World) : Calls Try.prog 41 #[.float .f64 a] w (TwoPost (spH a) (arV .sub a (spH a)) w) := by
  go_enter Try.func41, Try.ntmps41
  go_wp2_with fail
  go_ret2
  have h1 : ∀ w, cn (arU .mul w spC a) = cn (arV .mul spC a) := fun w => by rw [cn_arU, cn_arV]
  have h2 : ∀ w1 w2 w3 w4, cn (arU .sub w1 (arU .mul w2 spC a) (arU .sub w3 (arU .mul w4 spC a) a)) = spH a := fun w1 w2 w3 w4 => arU_of (h1 _) (arU_of2 (h1 _) rfl)
  refine ⟨_, _, rfl, h2 _ _ _ _, ?_, ?_⟩
  · exact arU_of rfl (by rw [show cn (spH a) = spH a from cn_arV _ _ _]; exact h2 _ _ _ _)
  · exact wIf_below _ _ (wIf_below _ _ (wIf_below _ _ (wIf_below _ _ (Below.refl _ _))))
attribute [local go_sem] run_fneg
def sizV (b : Nat) : Nat := if flt .f64 b 0 then flipF b else b
theorem rsize_any (b : Nat) (w : World) : Calls Try.prog 87 #[.float .f64 b] w fun en w' => en = .returned (.float .f64 (sizV b)) ∧ w = w' := by
  obtain ⟨r, hr⟩ : ∃ r, r = sizV b := ⟨_, rfl⟩
  rw [← hr]
  unfold sizV at hr
  cases h : flt .f64 b 0
  · rw [h, if_neg Bool.false_ne_true] at hr
    rw [hr]
    clear hr
    go_enter Try.func87, Try.ntmps87
    go_wp2_with fail
    go_ret
    exact ⟨rfl, rfl⟩
  · rw [h, if_pos rfl] at hr
    have HR := Lib.hid hr.symm
    clear hr
    go_enter Try.func87, Try.ntmps87
    go_wp2_with fail
    go_ret
    exact ⟨congrArg (fun x => Ending.returned (Value.float .f64 x)) HR.out, rfl⟩
def KeptPost (x y : Nat) (w : World) (en : Ending) (w' : World) : Prop := ∃ u v, en = .returned (.tuple #[.float .f64 u, .float .f64 v, .int .i64 0]) ∧ cn u = x ∧ cn v = y ∧ Below w.heap.size w w'
def keG (s x : Nat) : Bool := !(nan64 s || nan64 x) && decide (x % 9223372036854775808 ≤ s % 9223372036854775808)
def keS (f : Nat → Nat) : Nat → Nat
  | 0 => 0
  | k + 1 => arV .add (keS f k) (f k)
def keL (f : Nat → Nat) : Nat → Nat
  | 0 => 0
  | k + 1 => if keG (keS f k) (f k) then arV .add (keL f k) (arV .add (arV .sub (keS f k) (arV .add (keS f k) (f k))) (f k))
      else arV .add (keL f k) (arV .add (arV .sub (f k) (arV .add (keS f k) (f k))) (keS f k))
theorem keL_succ (f : Nat → Nat) (k : Nat) : keL f (k + 1) = if keG (keS f k) (f k) then arV .add (keL f k) (arV .add (arV .sub (keS f k) (arV .add (keS f k) (f k))) (f k)) else arV .add (keL f k) (arV .add (arV .sub (f k) (arV .add (keS f k) (f k))) (keS f k)) := rfl
theorem keL_cn (f : Nat → Nat) : ∀ k, cn (keL f k) = keL f k
  | 0 => rfl
  | k + 1 => by
    unfold keL
    split
    · exact cn_arV _ _ _
    · exact cn_arV _ _ _
theorem keG_cn {s t : Nat} (x : Nat) (h : cn s = cn t) : keG s x = keG t x := by
  have e1 : nan64 s = nan64 t := by rw [← cn_nan s, ← cn_nan t, h]
  unfold keG
  rw [e1]
  cases hn : nan64 t
  · rw [cn_of s (e1.trans hn), cn_of t hn] at h; rw [h]
  · rfl
theorem ge_abs (s x : Nat) : (fgt .f64 (s % 9223372036854775808) (x % 9223372036854775808) || feq .f64 (s % 9223372036854775808) (x % 9223372036854775808)) = keG s x := by
  have n1 : ∀ b, nan64 (b % 9223372036854775808) = nan64 b := fun b => by unfold nan64; rw [Nat.mod_mod]
  have k1 : ∀ b, key64 (b % 9223372036854775808) = ((b % 9223372036854775808 : Nat) : Int) := fun b => by unfold key64; rw [if_neg (by omega), Nat.mod_mod]
  rw [fgt64, feq64, n1, n1, k1, k1]
  unfold keG
  cases nan64 s <;> cases nan64 x <;> simp
  rw [Bool.eq_iff_iff]
  simp
  omega
set_option maxHeartbeats 2000000 in
theorem kept_any (n c : Nat) (A : Option Addr) (f : Nat → Nat) (w : World) (hA : FlAt w w.heap.size A n f) (hn : n ≤ 65536) (hf : ∀ j, j < n → f j < 2 ^ 64) :
    Calls Try.prog 37 #[.slice A n c] w (KeptPost (arV .add (keS f n) (keL f n)) (keL f n) w) := by
  have HLG := Lib.hid fun w => long_f n c A w (by omega)
  rw [decide_eq_false (by omega : ¬ 65536 < n)] at HLG
  have HA := Lib.hid hA
  have HSZ := Lib.hid fun b w hb => mabs_any b w hb
  have HF := Lib.hid hf
  clear hA hf
  go_enter Try.func37, Try.ntmps37
  go_wp2_with fail
  refine (HLG.out _).mono ?_
  rintro en w' ⟨rfl, rfl⟩
  go_wp2_with fail
  go_loopw [5, 6, 14] (fun s l t wr => ∃ k S L : Nat, t = .int .i64 k ∧ k ≤ n ∧ Below w.heap.size w wr ∧ s = .float .f64 S ∧ S < 2 ^ 64 ∧ l = .float .f64 L ∧ cn S = cn (keS f k) ∧ cn L = cn (keL f k)) (fun _ _ t _ => n - (intOf t).toNat)
  case atStart => exact ⟨0, 0, 0, rfl, by omega, Below.refl _ _, rfl, by omega, rfl, rfl, rfl⟩
  case round =>
    obtain ⟨k, S, L, rfl, hk, hbw, rfl, hSlt, rfl, hS, hL⟩ := hrel
    have BW := Lib.hid hbw; have HS := Lib.hid hS; have HL := Lib.hid hL
    clear hbw hS hL
    by_cases hkn : k < n
    · have h3 : (k : Int) < (n : Int) := by omega
      obtain ⟨a, o, rfl, ha, hc⟩ := (HA.out.below BW.out (Nat.le_refl _)) (by omega)
      have q := hc k hkn
      have HX := Lib.hid (HF.out k hkn)
      obtain ⟨x, hx⟩ : ∃ x, x = f k := ⟨_, rfl⟩
      rw [← hx] at q HX
      have HXE := Lib.hid hx
      clear hc hx
      go_wp2_with fail
      refine (HSZ.out _ _ hSlt).mono ?_
      rintro en w' ⟨rfl, rfl⟩
      go_wp2_with fail
      refine (HSZ.out _ _ HX.out).mono ?_
      rintro en w' ⟨rfl, rfl⟩
      have GE := Lib.hid ((ge_abs S x).trans (keG_cn x HS.out))
      clear hSlt
      go_wp2_with fail
      · have h := ‹fgt .f64 (S % 9223372036854775808) (x % 9223372036854775808) = true ∨ feq .f64 (S % 9223372036854775808) (x % 9223372036854775808) = true›
        have hg : keG (keS f k) x = true := by rw [← GE.out]; rcases h with h | h <;> rw [h] <;> simp
        have h1 : ∀ w, cn (arU .add w S x) = cn (arV .add (keS f k) x) := fun w => arU_of2 HS.out rfl
        have e1 : keS f (k + 1) = arV .add (keS f k) x := by rw [HXE.out]; rfl
        have e2 : keL f (k + 1) = arV .add (keL f k) (arV .add (arV .sub (keS f k) (arV .add (keS f k) x)) x) := by
          rw [HXE.out] at hg ⊢; rw [keL_succ]
          rw [hg, if_pos rfl]
        have E1 := Lib.hid e1; have E2 := Lib.hid e2; have H1 := Lib.hid h1
        clear e1 e2 h1 hg h
        go_roundw
        case rel => exact ⟨k + 1, _, _, by go_num, by omega, wIf_below _ _ (wIf_below _ _ (wIf_below _ _ (wIf_below _ _ BW.out))), rfl, arU_lt _ _ _ _, rfl, by rw [E1.out]; exact H1.out _, by rw [E2.out]; exact arU_of2 HL.out (arU_of2 (arU_of2 HS.out (H1.out _)) rfl)⟩
        case measure => (simp [intOf] <;> omega)
      · have h := ‹fgt .f64 (S % 9223372036854775808) (x % 9223372036854775808) = false ∧ feq .f64 (S % 9223372036854775808) (x % 9223372036854775808) = false›
        have hg : keG (keS f k) x = false := by rw [← GE.out, h.1, h.2]; rfl
        have h1 : ∀ w, cn (arU .add w S x) = cn (arV .add (keS f k) x) := fun w => arU_of2 HS.out rfl
        have e1 : keS f (k + 1) = arV .add (keS f k) x := by rw [HXE.out]; rfl
        have e2 : keL f (k + 1) = arV .add (keL f k) (arV .add (arV .sub x (arV .add (keS f k) x)) (keS f k)) := by
          rw [HXE.out] at hg ⊢; rw [keL_succ]
          rw [hg, if_neg Bool.false_ne_true]
        have E1 := Lib.hid e1; have E2 := Lib.hid e2; have H1 := Lib.hid h1
        clear e1 e2 h1 hg h
        go_roundw
        case rel => exact ⟨k + 1, _, _, by go_num, by omega, wIf_below _ _ (wIf_below _ _ (wIf_below _ _ (wIf_below _ _ BW.out))), rfl, arU_lt _ _ _ _, rfl, by rw [E1.out]; exact H1.out _, by rw [E2.out]; exact arU_of2 HL.out (arU_of2 (arU_of2 rfl (H1.out _)) HS.out)⟩
        case measure => (simp [intOf] <;> omega)
    · obtain rfl : k = n := by omega
      go_wp2_with fail
      go_ret3
      exact ⟨_, _, rfl, arU_of HS.out HL.out, HL.out.trans (keL_cn f k), wIf_below _ _ BW.out⟩
end Go.Proofs.Ytjakjnmfndfehaa

namespace Go.Proofs.Ytjakjnmfndfehaa
open Go.RowKit Go.Pst
set_option maxRecDepth 20000
set_option linter.unusedSimpArgs false
set_option linter.unusedVariables false
attribute [local go_sem] run_fadd run_fsub run_fmul

/-- A float as V but for which no number it is, and an answer e. -/
def FeLike (v : Nat) (e : Int) (w : World) (en : Ending) (w' : World) : Prop := ∃ u, en = .returned (.tuple #[.float .f64 u, .int .i64 e]) ∧ cn u = cn v ∧ Below w.heap.size w w'
def FlLike (v : Nat) (w : World) (en : Ending) (w' : World) : Prop := ∃ u, en = .returned (.float .f64 u) ∧ cn u = cn v ∧ Below w.heap.size w w'

set_option maxHeartbeats 1000000 in
theorem sum_any (n c : Nat) (A : Option Addr) (f : Nat → Nat) (w : World) (hA : FlAt w w.heap.size A n f) (hn : n ≤ 65536) :
    Calls Try.prog 30 #[.slice A n c] w (FeLike (keS f n) 0 w) := by
  have HLG := Lib.hid fun w => long_f n c A w (by omega)
  rw [decide_eq_false (by omega : ¬ 65536 < n)] at HLG
  have HA := Lib.hid hA
  clear hA
  go_enter Try.func30, Try.ntmps30
  go_wp2_with fail
  refine (HLG.out _).mono ?_
  rintro en w' ⟨rfl, rfl⟩
  go_wp2_with fail
  go_loopw [4, 11] (fun s t wr => ∃ k S : Nat, t = .int .i64 k ∧ k ≤ n ∧ Below w.heap.size w wr ∧ s = .float .f64 S ∧ cn S = cn (keS f k)) (fun _ t _ => n - (intOf t).toNat)
  case atStart => exact ⟨0, 0, rfl, by omega, Below.refl _ _, rfl, rfl⟩
  case round =>
    obtain ⟨k, S, rfl, hk, hbw, rfl, hS⟩ := hrel
    have BW := Lib.hid hbw; have HS := Lib.hid hS
    clear hbw hS
    by_cases hkn : k < n
    · have h3 : (k : Int) < (n : Int) := by omega
      have h0 : (0 : Int) ≤ (k : Int) := by omega
      obtain ⟨a, o, rfl, ha, hc⟩ := (HA.out.below BW.out (Nat.le_refl _)) (by omega)
      have q := hc k hkn
      have e1 : keS f (k + 1) = arV .add (keS f k) (f k) := rfl
      obtain ⟨x, hx⟩ : ∃ x, x = f k := ⟨_, rfl⟩
      rw [← hx] at q e1
      have E1 := Lib.hid e1
      clear hc hx e1
      go_wp2_with fail
      go_roundw
      case rel => exact ⟨k + 1, _, by go_num, by omega, wIf_below _ _ BW.out, rfl, by rw [E1.out]; exact arU_of2 HS.out rfl⟩
      case measure => (simp [intOf] <;> omega)
    · obtain rfl : k = n := by omega
      go_wp2_with fail
      go_ret2
      exact ⟨_, rfl, HS.out, BW.out⟩
set_option maxHeartbeats 1000000 in
theorem rsum_any (n c : Nat) (A : Option Addr) (f : Nat → Nat) (w : World) (hA : FlAt w w.heap.size A n f) (hn : n ≤ 65536) :
    Calls Try.prog 46 #[.slice A n c] w (FlLike (keS f n) w) := by
  have HA := Lib.hid hA
  clear hA
  go_enter Try.func46, Try.ntmps46
  go_wp2_with fail
  go_loopw [3, 4] (fun s t wr => ∃ k S : Nat, t = .int .i64 k ∧ k ≤ n ∧ Below w.heap.size w wr ∧ s = .float .f64 S ∧ cn S = cn (keS f k)) (fun _ t _ => n - (intOf t).toNat)
  case atStart => exact ⟨0, 0, rfl, by omega, Below.refl _ _, rfl, rfl⟩
  case round =>
    obtain ⟨k, S, rfl, hk, hbw, rfl, hS⟩ := hrel
    have BW := Lib.hid hbw; have HS := Lib.hid hS
    clear hbw hS
    by_cases hkn : k < n
    · have h3 : (k : Int) < (n : Int) := by omega
      have h0 : (0 : Int) ≤ (k : Int) := by omega
      obtain ⟨a, o, rfl, ha, hc⟩ := (HA.out.below BW.out (Nat.le_refl _)) (by omega)
      have q := hc k hkn
      have e1 : keS f (k + 1) = arV .add (keS f k) (f k) := rfl
      obtain ⟨x, hx⟩ : ∃ x, x = f k := ⟨_, rfl⟩
      rw [← hx] at q e1
      have E1 := Lib.hid e1
      clear hc hx e1
      go_wp2_with fail
      go_roundw
      case rel => exact ⟨k + 1, _, by go_num, by omega, wIf_below _ _ BW.out, rfl, by rw [E1.out]; exact arU_of2 HS.out rfl⟩
      case measure => (simp [intOf] <;> omega)
    · obtain rfl : k = n := by omega
      go_wp2_with fail
      go_ret
      exact ⟨_, rfl, HS.out, BW.out⟩

def doS (f g : Nat → Nat) : Nat → Nat
  | 0 => 0
  | k + 1 => arV .add (doS f g k) (arV .mul (f k) (g k))
/-- What both says of two lengths. -/
def bothV (n m : Nat) : Int := if 65536 < n ∨ 65536 < m then 50 else if n = m then 0 else 51
theorem both_any (n c m d : Nat) (A B : Option Addr) (w : World) (hn : n ≤ 65536) (hm : m ≤ 65536) :
    Calls Try.prog 90 #[.slice A n c, .slice B m d] w fun en w' => en = .returned (.int .i64 (if n = m then 0 else 51)) ∧ w = w' := by
  have HL1 := Lib.hid fun w => long_f n c A w (by omega)
  rw [decide_eq_false (by omega : ¬ 65536 < n)] at HL1
  have HL2 := Lib.hid fun w => long_f m d B w (by omega)
  rw [decide_eq_false (by omega : ¬ 65536 < m)] at HL2
  by_cases h : n = m
  · subst h
    rw [if_pos rfl]
    go_enter Try.func90, Try.ntmps90
    go_wp2_with fail
    refine (HL1.out _).mono ?_
    rintro en w' ⟨rfl, rfl⟩
    go_wp2_with fail
    refine (HL2.out _).mono ?_
    rintro en w' ⟨rfl, rfl⟩
    go_wp2_with fail
    go_ret
    exact ⟨rfl, rfl⟩
  · rw [if_neg h]
    have h2 : ((n : Int) == (m : Int)) = false := by simp; omega
    have h3 : ((n : Int) != (m : Int)) = true := by simp; omega
    have h4 : ¬ (n : Int) = (m : Int) := by omega
    clear h
    go_enter Try.func90, Try.ntmps90
    go_wp2_with fail
    refine (HL1.out _).mono ?_
    rintro en w' ⟨rfl, rfl⟩
    go_wp2_with fail
    refine (HL2.out _).mono ?_
    rintro en w' ⟨rfl, rfl⟩
    go_wp2_with fail
    go_ret
    exact ⟨rfl, rfl⟩

set_option maxHeartbeats 1000000 in
theorem dot_any (n c d : Nat) (A B : Option Addr) (f g : Nat → Nat) (w : World) (hA : FlAt w w.heap.size A n f) (hB : FlAt w w.heap.size B n g) (hn : n ≤ 65536) :
    Calls Try.prog 48 #[.slice A n c, .slice B n d] w (FeLike (doS f g n) 0 w) := by
  have HBO := Lib.hid fun w => both_any n c n d A B w hn hn
  rw [if_pos rfl] at HBO
  have HA := Lib.hid hA; have HB := Lib.hid hB
  clear hA hB
  go_enter Try.func48, Try.ntmps48
  go_wp2_with fail
  refine (HBO.out _).mono ?_
  rintro en w' ⟨rfl, rfl⟩
  go_wp2_with fail
  go_loopw [7, 18] (fun s t wr => ∃ k S : Nat, t = .int .i64 k ∧ k ≤ n ∧ Below w.heap.size w wr ∧ s = .float .f64 S ∧ cn S = cn (doS f g k)) (fun _ t _ => n - (intOf t).toNat)
  case atStart => exact ⟨0, 0, rfl, by omega, Below.refl _ _, rfl, rfl⟩
  case round =>
    obtain ⟨k, S, rfl, hk, hbw, rfl, hS⟩ := hrel
    have BW := Lib.hid hbw; have HS := Lib.hid hS
    clear hbw hS
    by_cases hkn : k < n
    · have h3 : (k : Int) < (n : Int) := by omega
      have h0 : (0 : Int) ≤ (k : Int) := by omega
      obtain ⟨a, o, rfl, ha, hc⟩ := (HA.out.below BW.out (Nat.le_refl _)) (by omega)
      obtain ⟨b, o2, rfl, hb, hc2⟩ := (HB.out.below BW.out (Nat.le_refl _)) (by omega)
      have q := hc k hkn
      have q2 := hc2 k hkn
      have e1 : doS f g (k + 1) = arV .add (doS f g k) (arV .mul (f k) (g k)) := rfl
      obtain ⟨x, hx⟩ : ∃ x, x = f k := ⟨_, rfl⟩
      obtain ⟨y, hy⟩ : ∃ y, y = g k := ⟨_, rfl⟩
      rw [← hx] at q e1
      rw [← hy] at q2 e1
      have E1 := Lib.hid e1
      clear hc hc2 hx hy e1
      go_wp2_with fail
      go_roundw
      case rel => exact ⟨k + 1, _, by go_num, by omega, wIf_below _ _ (wIf_below _ _ BW.out), rfl, by rw [E1.out]; exact arU_of2 HS.out (arU_of2 rfl rfl)⟩
      case measure => (simp [intOf] <;> omega)
    · obtain rfl : k = n := by omega
      go_wp2_with fail
      go_ret2
      exact ⟨_, rfl, HS.out, BW.out⟩
set_option maxHeartbeats 1000000 in
theorem rdot_any (n c d : Nat) (A B : Option Addr) (f g : Nat → Nat) (w : World) (hA : FlAt w w.heap.size A n f) (hB : FlAt w w.heap.size B n g) (hn : n ≤ 65536) :
    Calls Try.prog 52 #[.slice A n c, .slice B n d] w (FlLike (doS f g n) w) := by
  have HA := Lib.hid hA; have HB := Lib.hid hB
  clear hA hB
  go_enter Try.func52, Try.ntmps52
  go_wp2_with fail
  go_loopw [5, 6] (fun s t wr => ∃ k S : Nat, t = .int .i64 k ∧ k ≤ n ∧ Below w.heap.size w wr ∧ s = .float .f64 S ∧ cn S = cn (doS f g k)) (fun _ t _ => n - (intOf t).toNat)
  case atStart => exact ⟨0, 0, rfl, by omega, Below.refl _ _, rfl, rfl⟩
  case round =>
    obtain ⟨k, S, rfl, hk, hbw, rfl, hS⟩ := hrel
    have BW := Lib.hid hbw; have HS := Lib.hid hS
    clear hbw hS
    by_cases hkn : k < n
    · have h3 : (k : Int) < (n : Int) := by omega
      have h0 : (0 : Int) ≤ (k : Int) := by omega
      obtain ⟨a, o, rfl, ha, hc⟩ := (HA.out.below BW.out (Nat.le_refl _)) (by omega)
      obtain ⟨b, o2, rfl, hbb, hc2⟩ := (HB.out.below BW.out (Nat.le_refl _)) (by omega)
      have q := hc k hkn
      have q2 := hc2 k hkn
      have e1 : doS f g (k + 1) = arV .add (doS f g k) (arV .mul (f k) (g k)) := rfl
      obtain ⟨x, hx⟩ : ∃ x, x = f k := ⟨_, rfl⟩
      obtain ⟨y, hy⟩ : ∃ y, y = g k := ⟨_, rfl⟩
      rw [← hx] at q e1
      rw [← hy] at q2 e1
      have E1 := Lib.hid e1
      clear hc hc2 hx hy e1
      have hal : a < wr.heap.size := Nat.lt_of_lt_of_le ha BW.out.size
      have hbl : b < wr.heap.size := Nat.lt_of_lt_of_le hbb BW.out.size
      go_wp2_with fail
      refine Reg.wp_region_rn [13, 22, 23, 5] (by kernel_rfl) (by kernel_rfl) (fun _ => ?_)
      refine Reg.op1 Reg.rn_class (fun _ _ => trivial) rfl rfl 5 _ rfl rfl ⟨.float .f64 (S), ?_, ?_⟩
      · intro u1 g1 w' hb; clear hb; have G1 := Lib.hid g1; clear g1; simp only [Act.put, List.setIfInBounds_toArray, List.set_cons_zero, List.set_cons_succ]; go_simp; exact ⟨Below.refl _ _, .inr ⟨rfl, G1.out⟩⟩
      intro a' ha'; simp only [Act.put, List.setIfInBounds_toArray, List.set_cons_zero, List.set_cons_succ] at ha'; subst ha'
      repeat (refine Reg.op0e Reg.rn_class (fun _ _ => trivial) rfl rfl rfl ?_; apply Exists.intro; apply And.intro; (intro w' hb; have hc := Reg.rd_cells hb; clear hb; go_simp; (try go_bits); first | done | (with_reducible exact rfl)); (intro a' ha'; simp only [Act.put, List.setIfInBounds_toArray, List.set_cons_zero, List.set_cons_succ] at ha'; subst ha'))
      refine Reg.op0 Reg.rn_class (fun _ _ => trivial) rfl rfl rfl ⟨.float .f64 ((arV .mul x y)), ?_, ?_⟩
      · intro w' hb; have hc := Reg.rd_cells hb; clear hb; go_simp; exact ⟨wIf_refl _ _, .inr ⟨rfl, veq_of_cn (arU_of2 rfl rfl)⟩⟩
      intro a' ha'; simp only [Act.put, List.setIfInBounds_toArray, List.set_cons_zero, List.set_cons_succ] at ha'; subst ha'
      refine Reg.op2 Reg.rn_class (fun _ _ => trivial) rfl rfl 13 22 _ _ rfl rfl rfl ⟨.float .f64 ((arV .add S (arV .mul x y))), ?_, ?_⟩
      · intro u1 u2 g1 g2 w' hb; obtain ⟨y1, rfl, f1⟩ := cn_of_veq g1; obtain ⟨y2, rfl, f2⟩ := cn_of_veq g2; clear g1 g2; have hc := Reg.rd_cells hb; clear hb; have F1 := Lib.hid f1; have F2 := Lib.hid f2; clear f1 f2; simp only [Act.put, List.setIfInBounds_toArray, List.set_cons_zero, List.set_cons_succ]; go_simp; have f1 := F1.out; have f2 := F2.out; exact ⟨wIf_refl _ _, .inr ⟨rfl, veq_of_cn (arU_of2 f1 f2)⟩⟩
      intro a' ha'; simp only [Act.put, List.setIfInBounds_toArray, List.set_cons_zero, List.set_cons_succ] at ha'; subst ha'
      refine Reg.op1 Reg.rn_class (fun _ _ => trivial) rfl rfl 23 _ rfl rfl ⟨.float .f64 ((arV .add S (arV .mul x y))), ?_, ?_⟩
      · intro u1 g1 w' hb; clear hb; have G1 := Lib.hid g1; clear g1; simp only [Act.put, List.setIfInBounds_toArray, List.set_cons_zero, List.set_cons_succ]; go_simp; exact ⟨Below.refl _ _, .inr ⟨rfl, G1.out⟩⟩
      intro a' ha'; simp only [Act.put, List.setIfInBounds_toArray, List.set_cons_zero, List.set_cons_succ] at ha'; subst ha'
      refine Reg.rn_endv [(13, .float .f64 (S)), (22, .float .f64 ((arV .mul x y))), (23, .float .f64 ((arV .add S (arV .mul x y)))), (5, .float .f64 ((arV .add S (arV .mul x y))))] rfl (fun wz hb => ?_)
      refine ⟨rfl, fun u hu => ?_⟩
      obtain ⟨z13, rfl, k13⟩ := cn_of_veq hu; clear hu
      refine ⟨rfl, fun u hu => ?_⟩
      obtain ⟨z22, rfl, k22⟩ := cn_of_veq hu; clear hu
      refine ⟨rfl, fun u hu => ?_⟩
      obtain ⟨z23, rfl, k23⟩ := cn_of_veq hu; clear hu
      refine ⟨rfl, fun u hu => ?_⟩
      obtain ⟨z5, rfl, k5⟩ := cn_of_veq hu; clear hu
      simp only [Reg.endv, Act.put, List.setIfInBounds_toArray, List.set_cons_zero, List.set_cons_succ]
      have BW2 := Lib.hid (BW.out.trans (hb.mono BW.out.size))
      clear hb
      have HZ : Hid (cn z5 = cn (doS f g (k + 1))) := Lib.hid (by rw [k5, E1.out, cn_arV, cn_arV]; exact arV_cn .add HS.out rfl)
      clear k13 k22 k23 k5
      go_wp2_with fail
      go_roundw
      case rel => exact ⟨k + 1, _, by go_num, by omega, BW2.out, rfl, HZ.out⟩
      case measure => (simp [intOf] <;> omega)
    · obtain rfl : k = n := by omega
      go_wp2_with fail
      go_ret
      exact ⟨_, rfl, HS.out, BW.out⟩
theorem dot_pairs (n c m d : Nat) (A B : Option Addr) (w : World) (hn : n ≤ 65536) (hm : m ≤ 65536) (h : n ≠ m) :
    Calls Try.prog 48 #[.slice A n c, .slice B m d] w fun en w' => en = .returned (.tuple #[.float .f64 0, .int .i64 51]) ∧ w = w' := by
  have HBO := Lib.hid fun w => both_any n c m d A B w hn hm
  rw [if_neg h] at HBO
  clear h
  go_enter Try.func48, Try.ntmps48
  go_wp2_with fail
  refine (HBO.out _).mono ?_
  rintro en w' ⟨rfl, rfl⟩
  go_wp2_with fail
  go_ret2
  exact ⟨rfl, rfl⟩
end Go.Proofs.Ytjakjnmfndfehaa

namespace Go.Proofs.Ytjakjnmfndfehaa
open Go.RowKit Go.Pst
set_option maxRecDepth 20000
set_option linter.unusedSimpArgs false
set_option linter.unusedVariables false
attribute [local go_sem] run_fadd run_fsub run_fmul

/-- A polynomial after j steps, from the last of n numbers on. -/
def poS (f : Nat → Nat) (x n : Nat) : Nat → Nat
  | 0 => f (n - 1)
  | j + 1 => arV .add (arV .mul (poS f x n j) x) (f (n - 2 - j))
def poV (f : Nat → Nat) (x n : Nat) : Nat := if n = 0 then 0 else poS f x n (n - 1)
set_option maxHeartbeats 1000000 in
theorem poly_any (n c x : Nat) (A : Option Addr) (f : Nat → Nat) (w : World) (hA : FlAt w w.heap.size A n f) (hn : n ≤ 65536) :
    Calls Try.prog 50 #[.slice A n c, .float .f64 x] w (FeLike (poV f x n) 0 w) := by
  have HLG := Lib.hid fun w => long_f n c A w (by omega)
  rw [decide_eq_false (by omega : ¬ 65536 < n)] at HLG
  have HA := Lib.hid hA
  unfold poV
  by_cases h0 : n = 0
  · subst h0
    rw [if_pos rfl]
    clear hA
    go_enter Try.func50, Try.ntmps50
    go_wp2_with fail
    refine (HLG.out _).mono ?_
    rintro en w' ⟨rfl, rfl⟩
    go_wp2_with fail
    go_ret2
    exact ⟨0, rfl, rfl, Below.refl _ _⟩
  · rw [if_neg h0]
    obtain ⟨a, o, rfl, ha, hc⟩ := hA (by omega)
    have q := hc (n - 1) (by omega)
    obtain ⟨y, hy⟩ : ∃ y, y = f (n - 1) := ⟨_, rfl⟩
    rw [← hy] at q
    have HY : Hid (cn y = cn (poS f x n 0)) := Lib.hid (by rw [hy]; rfl)
    obtain ⟨m, hm⟩ : ∃ m : Nat, (n : Int) - 1 = (m : Int) := ⟨n - 1, by omega⟩
    rw [show n - 1 = m by omega] at q ⊢
    have hm1 : (m : Int) < (n : Int) := by omega
    have hm0 : (0 : Int) ≤ (m : Int) := by omega
    have hN0 : ((n : Int) == 0) = false := by simp; omega
    have hN1 : ¬ (n : Int) = 0 := by omega
    clear hc hy h0
    go_enter Try.func50, Try.ntmps50
    go_wp2_with fail
    refine (HLG.out _).mono ?_
    rintro en w' ⟨rfl, rfl⟩
    go_wp2_with fail
    clear q
    go_loopw [6, 7] (fun s t wr => ∃ j S : Nat, t = .int .i64 ((n : Int) - 2 - (j : Int)) ∧ j + 1 ≤ n ∧ Below w.heap.size w wr ∧ s = .float .f64 S ∧ cn S = cn (poS f x n j)) (fun _ t _ => (intOf t + 1).toNat)
    case atStart => exact ⟨0, y, by simp, by omega, Below.refl _ _, rfl, HY.out⟩
    case round =>
      obtain ⟨j, S, rfl, hj, hbw, rfl, hS⟩ := hrel
      have BW := Lib.hid hbw; have HS := Lib.hid hS
      clear hbw hS
      by_cases hjn : j + 1 < n
      · obtain ⟨i, hi⟩ : ∃ i : Nat, (n : Int) - 2 - (j : Int) = (i : Int) := ⟨n - 2 - j, by omega⟩
        rw [hi]
        have h3 : (i : Int) < (n : Int) := by omega
        have h0 : (0 : Int) ≤ (i : Int) := by omega
        have hi2 : i = n - 2 - j := by omega
        obtain ⟨a9, o9, e9, ha9, hc⟩ := (HA.out.below BW.out (Nat.le_refl _)) (by omega)
        cases e9
        have q := hc i (by omega)
        have e1 : poS f x n (j + 1) = arV .add (arV .mul (poS f x n j) x) (f (n - 2 - j)) := rfl
        rw [← hi2] at e1
        obtain ⟨y, hy⟩ : ∃ y, y = f i := ⟨_, rfl⟩
        rw [← hy] at q e1
        have E1 := Lib.hid e1
        have hrel2 : (i : Int) - 1 = (n : Int) - 2 - ((j + 1 : Nat) : Int) := by omega
        have HR2 := Lib.hid hrel2
        clear hc hy e1 hi2 hi hrel2
        go_wp2_with fail
        go_roundw
        case rel => exact ⟨j + 1, _, by rw [HR2.out], by omega, wIf_below _ _ (wIf_below _ _ BW.out), rfl, by rw [E1.out]; exact arU_of2 (arU_of2 HS.out rfl) rfl⟩
        case measure => (simp [intOf] <;> omega)
      · have hl : (n : Int) - 2 - (j : Int) < 0 := by omega
        have hjm : j = m := by omega
        have HJ := Lib.hid hjm
        clear hjm
        go_wp2_with fail
        go_ret2
        exact ⟨_, rfl, by rw [← HJ.out]; exact HS.out, BW.out⟩
set_option maxHeartbeats 1000000 in
theorem rpoly_any (n c x : Nat) (A : Option Addr) (f : Nat → Nat) (w : World) (hA : FlAt w w.heap.size A n f) (hn : n ≤ 65536) :
    Calls Try.prog 51 #[.slice A n c, .float .f64 x] w (FlLike (poV f x n) w) := by
  have HA := Lib.hid hA
  unfold poV
  by_cases h0 : n = 0
  · subst h0
    rw [if_pos rfl]
    clear hA
    go_enter Try.func51, Try.ntmps51
    go_wp2_with fail
    go_ret
    exact ⟨0, rfl, rfl, Below.refl _ _⟩
  · rw [if_neg h0]
    obtain ⟨a, o, rfl, ha, hc⟩ := hA (by omega)
    have q := hc (n - 1) (by omega)
    obtain ⟨y, hy⟩ : ∃ y, y = f (n - 1) := ⟨_, rfl⟩
    rw [← hy] at q
    have HY : Hid (cn y = cn (poS f x n 0)) := Lib.hid (by rw [hy]; rfl)
    obtain ⟨m, hm⟩ : ∃ m : Nat, (n : Int) - 1 = (m : Int) := ⟨n - 1, by omega⟩
    rw [show n - 1 = m by omega] at q ⊢
    have hm1 : (m : Int) < (n : Int) := by omega
    have hm0 : (0 : Int) ≤ (m : Int) := by omega
    have hN0 : ((n : Int) == 0) = false := by simp; omega
    have hN1 : ¬ (n : Int) = 0 := by omega
    clear hc hy h0
    go_enter Try.func51, Try.ntmps51
    go_wp2_with fail
    clear q
    go_loopw [5, 6] (fun s t wr => ∃ j S : Nat, t = .int .i64 ((n : Int) - 2 - (j : Int)) ∧ j + 1 ≤ n ∧ Below w.heap.size w wr ∧ s = .float .f64 S ∧ cn S = cn (poS f x n j)) (fun _ t _ => (intOf t + 1).toNat)
    case atStart => exact ⟨0, y, by simp, by omega, Below.refl _ _, rfl, HY.out⟩
    case round =>
      obtain ⟨j, S, rfl, hj, hbw, rfl, hS⟩ := hrel
      have BW := Lib.hid hbw; have HS := Lib.hid hS
      clear hbw hS
      by_cases hjn : j + 1 < n
      · obtain ⟨i, hi⟩ : ∃ i : Nat, (n : Int) - 2 - (j : Int) = (i : Int) := ⟨n - 2 - j, by omega⟩
        rw [hi]
        have h3 : (i : Int) < (n : Int) := by omega
        have h0 : (0 : Int) ≤ (i : Int) := by omega
        have hi2 : i = n - 2 - j := by omega
        obtain ⟨a9, o9, e9, ha9, hc⟩ := (HA.out.below BW.out (Nat.le_refl _)) (by omega)
        cases e9
        have q := hc i (by omega)
        have e1 : poS f x n (j + 1) = arV .add (arV .mul (poS f x n j) x) (f (n - 2 - j)) := rfl
        rw [← hi2] at e1
        obtain ⟨y, hy⟩ : ∃ y, y = f i := ⟨_, rfl⟩
        rw [← hy] at q e1
        have E1 := Lib.hid e1
        have hrel2 : (i : Int) - 1 = (n : Int) - 2 - ((j + 1 : Nat) : Int) := by omega
        have HR2 := Lib.hid hrel2
        clear hc hy e1 hi2 hi hrel2
        go_wp2_with fail
        go_roundw
        case rel => exact ⟨j + 1, _, by rw [HR2.out], by omega, wIf_below _ _ (wIf_below _ _ BW.out), rfl, by rw [E1.out]; exact arU_of2 (arU_of2 HS.out rfl) rfl⟩
        case measure => (simp [intOf] <;> omega)
      · have hl : (n : Int) - 2 - (j : Int) < 0 := by omega
        have hjm : j = m := by omega
        have HJ := Lib.hid hjm
        clear hjm
        go_wp2_with fail
        go_ret
        exact ⟨_, rfl, by rw [← HJ.out]; exact HS.out, BW.out⟩
end Go.Proofs.Ytjakjnmfndfehaa

namespace Go.Pst
open Go Ieee Go.Proofs.Ytjakjnmfndfehaa
set_option linter.unusedVariables false
section
variable {α : Type} (op : α → α → α) (e : α)
/-- The first n of a row, joined from the left. -/
def foldN (h : Nat → α) : Nat → α
  | 0 => e
  | n + 1 => op (foldN h n) (h n)
structure Comm : Prop where
  assoc : ∀ a b c, op (op a b) c = op a (op b c)
  comm : ∀ a b, op a b = op b a
  unit : ∀ a, op a e = a
variable {op e}
theorem foldN_congr {h g : Nat → α} : ∀ n, (∀ i, i < n → h i = g i) → foldN op e h n = foldN op e g n
  | 0, _ => rfl
  | n + 1, hh => by unfold foldN; rw [foldN_congr n fun i hi => hh i (by omega), hh n (by omega)]
theorem foldN_add (C : Comm op e) (h : Nat → α) (a : Nat) : ∀ b, foldN op e h (a + b) = op (foldN op e h a) (foldN op e (fun i => h (a + i)) b)
  | 0 => (C.unit _).symm
  | b + 1 => by
    show op (foldN op e h (a + b)) (h (a + b)) = op _ (op _ _)
    rw [foldN_add C h a b, C.assoc]
theorem foldN_first (C : Comm op e) (h : Nat → α) (n : Nat) : foldN op e h (n + 1) = op (h 0) (foldN op e (fun i => h (i + 1)) n) := by
  rw [Nat.add_comm n 1, foldN_add C h 1 n]
  show op (op e (h 0)) _ = _
  rw [C.comm e, C.unit]
  exact congrArg _ (foldN_congr n fun i _ => by rw [Nat.add_comm])
theorem foldN_back (C : Comm op e) : ∀ (n : Nat) (h : Nat → α), foldN op e (fun i => h (n - 1 - i)) n = foldN op e h n
  | 0, _ => rfl
  | n + 1, h => by
    show op (foldN op e (fun i => h (n + 1 - 1 - i)) n) (h (n + 1 - 1 - n)) = _
    rw [foldN_first C h n, C.comm, show n + 1 - 1 - n = 0 by omega]
    congr 1
    rw [← foldN_back C n fun i => h (i + 1)]
    exact foldN_congr n fun i hi => by rw [show n + 1 - 1 - i = n - 1 - i + 1 by omega]
theorem foldN_turn (C : Comm op e) {n at' : Nat} (ha : at' ≤ n) (h g : Nat → α) (h1 : ∀ i, i < n - at' → g i = h (at' + i)) (h2 : ∀ i, i < at' → g (n - at' + i) = h i) : foldN op e g n = foldN op e h n := by
  have e1 := foldN_add C g (n - at') at'
  have e2 := foldN_add C h at' (n - at')
  rw [show n - at' + at' = n by omega] at e1
  rw [show at' + (n - at') = n by omega] at e2
  rw [e1, e2, C.comm]
  rw [foldN_congr at' h2, foldN_congr (n - at') h1]
end
theorem comm_or : Comm Bool.or false := ⟨Bool.or_assoc, Bool.or_comm, Bool.or_false⟩
theorem comm_sum : Comm (fun a b : Int => a + b) 0 := ⟨Int.add_assoc, Int.add_comm, Int.add_zero⟩
def eN (b : Nat) : Bool := nan64 b
def eP (b : Nat) : Bool := !nan64 b && infB b && !negB b
def eL (b : Nat) : Bool := !nan64 b && infB b && negB b
def eS (b : Nat) : Bool := !nan64 b
def eM (b : Nat) : Bool := !nan64 b && (infB b || decide (magN b ≠ 0) || !negB b)
def eU (b : Nat) : Int := if finF b then valZ b else 0
theorem exN_fold (f : Nat → Nat) : ∀ n, exN f n = foldN Bool.or false (fun i => eN (f i)) n
  | 0 => rfl
  | n + 1 => by unfold exN foldN; rw [exN_fold f n]; rfl
theorem exP_fold (f : Nat → Nat) : ∀ n, exP f n = foldN Bool.or false (fun i => eP (f i)) n
  | 0 => rfl
  | n + 1 => by unfold exP foldN; rw [exP_fold f n]; rfl
theorem exL_fold (f : Nat → Nat) : ∀ n, exL f n = foldN Bool.or false (fun i => eL (f i)) n
  | 0 => rfl
  | n + 1 => by unfold exL foldN; rw [exL_fold f n]; rfl
theorem exS_fold (f : Nat → Nat) : ∀ n, exS f n = foldN Bool.or false (fun i => eS (f i)) n
  | 0 => rfl
  | n + 1 => by unfold exS foldN; rw [exS_fold f n]; rfl
theorem exM_fold (f : Nat → Nat) : ∀ n, exM f n = foldN Bool.or false (fun i => eM (f i)) n
  | 0 => rfl
  | n + 1 => by unfold exM foldN; rw [exM_fold f n]; rfl
theorem exSum_fold (f : Nat → Nat) : ∀ n, exSum f n = foldN (fun a b : Int => a + b) 0 (fun i => eU (f i)) n
  | 0 => rfl
  | n + 1 => by unfold exSum foldN; rw [exSum_fold f n]; rfl
theorem exact_of {f g : Nat → Nat} {n : Nat} (h : ∀ {α : Type} {op : α → α → α} {e : α}, Comm op e → ∀ u : Nat → α, foldN op e (fun i => u (g i)) n = foldN op e (fun i => u (f i)) n) : exactV g n = exactV f n := by
  unfold exactV
  rw [exN_fold, exP_fold, exL_fold, exS_fold, exM_fold, exSum_fold, h comm_or, h comm_or, h comm_or, h comm_or, h comm_or, h comm_sum]
  rw [exN_fold f, exP_fold f, exL_fold f, exS_fold f, exM_fold f, exSum_fold f]
theorem exact_back (f : Nat → Nat) (n : Nat) : exactV (fun i => f (n - 1 - i)) n = exactV f n := exact_of fun C u => foldN_back C n fun i => u (f i)
theorem exact_turn {f g : Nat → Nat} {n at' : Nat} (ha : at' ≤ n) (h1 : ∀ i, i < n - at' → g i = f (at' + i)) (h2 : ∀ i, i < at' → g (n - at' + i) = f i) : exactV g n = exactV f n :=
  exact_of fun C u => foldN_turn C ha (fun i => u (f i)) (fun i => u (g i)) (fun i hi => by rw [h1 i hi]) (fun i hi => by rw [h2 i hi])
theorem feq_self64 (x : Nat) (h : nan64 x = false) : feq .f64 x x = true := by rw [feq64, h]; simp
/-- Noughts put in behind: the same number (but for the sign of 0), or none both. -/
theorem exact_nought {f g : Nat → Nat} {n : Nat} (h : ∀ i, i < n → g i = f i) (h0 : g n = 0) (h1 : g (n + 1) = 0) :
    feq .f64 (exactV f n) (exactV g (n + 2)) = true ∨ (nan64 (exactV f n) = true ∧ nan64 (exactV g (n + 2)) = true) := by
  have c : ∀ {α : Type} {op : α → α → α} {e : α} (u : Nat → α), foldN op e (fun i => u (g i)) n = foldN op e (fun i => u (f i)) n := fun u => foldN_congr n fun i hi => by rw [h i hi]
  have aN : exN g (n + 2) = exN f n := by
    show ((exN g n || nan64 (g n)) || nan64 (g (n + 1))) = _
    rw [h0, h1, exN_fold, c eN, ← exN_fold]; simp [show nan64 0 = false from rfl]
  have aP : exP g (n + 2) = exP f n := by
    show ((exP g n || eP (g n)) || eP (g (n + 1))) = _
    rw [h0, h1, exP_fold, c eP, ← exP_fold, show eP 0 = false by decide]; simp
  have aL : exL g (n + 2) = exL f n := by
    show ((exL g n || eL (g n)) || eL (g (n + 1))) = _
    rw [h0, h1, exL_fold, c eL, ← exL_fold, show eL 0 = false by decide]; simp
  have aM : exM g (n + 2) = true := by
    show ((exM g n || eM (g n)) || eM (g (n + 1))) = _
    rw [h1, show eM 0 = true by decide]; simp
  have aU : exSum g (n + 2) = exSum f n := by
    show ((exSum g n + eU (g n)) + eU (g (n + 1))) = _
    rw [h0, h1, exSum_fold, c eU, ← exSum_fold, show eU 0 = 0 by decide]; simp
  have main : exactV f n = exactV g (n + 2) ∨ (exactV f n = 9223372036854775808 ∧ exactV g (n + 2) = 0) := by
    unfold exactV
    rw [aN, aP, aL, aM, aU]
    unfold exV
    split
    · exact .inl rfl
    split
    · exact .inl rfl
    split
    · exact .inl rfl
    split
    · rw [Bool.not_true, Bool.and_false, if_neg Bool.false_ne_true]
      split
      · exact .inr ⟨rfl, rfl⟩
      · exact .inl rfl
    · exact .inl rfl
  rcases main with e | ⟨e1, e2⟩
  · rw [← e]
    cases hn : nan64 (exactV f n)
    · exact .inl (feq_self64 _ hn)
    · exact .inr ⟨rfl, rfl⟩
  · rw [e1, e2]; exact .inl (by decide)
end Go.Pst

namespace Go.Proofs.Ytjakjnmfndfehaa
open Go.RowKit Go.Pst
set_option maxRecDepth 20000
set_option linter.unusedSimpArgs false
set_option linter.unusedVariables false

theorem own_below {w w' : World} {base : Nat} {e : TypeId} {size n : Nat} {v : Value} {xs : List Value} (h : w.ownsRow base e size v n xs) (hb : Below w.heap.size w w') : w'.ownsRow base e size v n xs := by
  refine ⟨h.1, ?_⟩
  rcases h.2 with h2 | ⟨g, cap, cur, h1, h2, h3, h4⟩
  · exact .inl h2
  · exact .inr ⟨g, cap, cur, h1, h2, (hb.block g (Array.getElem?_eq_some_iff.1 h3).1).trans h3, h4⟩

theorem infoNum : (Try.prog.info? 24).map (fun i => (i.zero, i.size, i.bytes)) = some (some (.float .f64 0), 1, 8) := by kernel_rfl

def nums (f : Nat → Nat) (j : Nat) : List Value := (List.range j).map fun k => .float .f64 (f k)

theorem nums_succ (f : Nat → Nat) (j z : Nat) : nums f j ++ [.float .f64 z] = nums (fun k => if k = j then z else f k) (j + 1) := by
  unfold nums
  rw [List.range_succ, List.map_append]
  congr 1
  · apply List.map_congr_left
    intro k hk
    have : k ≠ j := by have := List.mem_range.1 hk; omega
    simp [this]
  · simp

theorem nums_get (f : Nat → Nat) {j k : Nat} (h : k < j) : (nums f j)[k]? = some (.float .f64 (f k)) := by
  unfold nums; rw [List.getElem?_map, List.getElem?_range h]; rfl

theorem own_cell {w : World} {base g cap n : Nat} {e : TypeId} {xs : List Value} {u : Value} (h : w.ownsRow base e 1 (.slice (some ⟨g, 0, none⟩) n cap) n xs) {j : Nat} (hu : xs[j]? = some u) : w.cell? ⟨g, j, none⟩ = some u := by
  have := h.cells (g := g) rfl j u hu
  have ha : ((⟨g, 0, none⟩ : Addr).add j) = ⟨g, j, none⟩ := by unfold Addr.add; split <;> simp_all
  rwa [ha] at this

theorem flat_of {w : World} {base n : Nat} {e : TypeId} {v : Value} {y : Nat → Nat} (h : w.ownsRow base e 1 v n (nums y n)) : ∃ B cb, v = .slice B n cb ∧ FlAt w w.heap.size B n y := by
  rcases h.2 with ⟨h1, h2⟩ | ⟨g, cap, cur, h1, h2, h3, h4⟩
  · subst h2; exact ⟨none, 0, h1, fun h => by omega⟩
  · subst h1
    exact ⟨_, _, rfl, fun _ => ⟨g, 0, rfl, (Array.getElem?_eq_some_iff.1 h3).1, fun i hi => by rw [Nat.zero_add]; exact own_cell h (nums_get y hi)⟩⟩
theorem nums_add (f : Nat → Nat) (a : Nat) : ∀ b, nums f a ++ nums (fun i => f (a + i)) b = nums f (a + b)
  | 0 => by simp [nums]
  | b + 1 => by
    have h1 : ∀ (g : Nat → Nat) (k : Nat), nums g (k + 1) = nums g k ++ [.float .f64 (g k)] := fun g k => by unfold nums; rw [List.range_succ, List.map_append]; rfl
    rw [show a + (b + 1) = a + b + 1 by omega, h1, h1, ← List.append_assoc, nums_add f a b]
theorem nums_next (f : Nat → Nat) (j : Nat) : nums f j ++ [.float .f64 (f j)] = nums f (j + 1) := by unfold nums; rw [List.range_succ, List.map_append]; rfl
end Go.Proofs.Ytjakjnmfndfehaa

namespace Go.Pst
open Go Ieee Go.Proofs.Ytjakjnmfndfehaa
set_option linter.unusedVariables false
theorem flip_parts {x : Nat} (hx : x < 2 ^ 64) : flipF x % 9223372036854775808 = x % 9223372036854775808 ∧ negB (flipF x) = !negB x ∧ flipF x < 2 ^ 64 := by
  have tw : ∀ r, flipF (flipF r) = r := fun r => by unfold flipF; rw [Nat.xor_assoc, Nat.xor_self, Nat.xor_zero]
  have wt : ∀ r, wrd true r = 9223372036854775808 + r := fun r => by unfold wrd; rw [if_pos rfl]
  rcases Nat.lt_or_ge x 9223372036854775808 with h | h
  · rw [flipF_low h, wt]
    refine ⟨by omega, ?_, by omega⟩
    unfold negB
    rw [decide_eq_true (by omega), decide_eq_false (by omega)]; rfl
  · obtain ⟨r, hr⟩ : ∃ r, x = 9223372036854775808 + r := ⟨x % 9223372036854775808, by omega⟩
    have hlt : r < 9223372036854775808 := by omega
    have e : flipF x = r := by rw [hr, ← wt, ← flipF_low hlt, tw]
    rw [e]
    refine ⟨by omega, ?_, by omega⟩
    unfold negB
    rw [decide_eq_false (by omega), decide_eq_true (by omega)]; rfl
theorem flip_fin {x : Nat} (h : finB x) : finB (flipF x) ∧ valZ (flipF x) = -valZ x := by
  obtain ⟨hb, hn, hi⟩ := h
  obtain ⟨e1, e2, e3⟩ := flip_parts hb
  have n1 : nan64 (flipF x) = nan64 x := by unfold nan64; rw [e1]
  have i1 : infB (flipF x) = infB x := by unfold infB; rw [e1]
  refine ⟨⟨e3, n1.trans hn, i1.trans hi⟩, ?_⟩
  rw [valZ_mag, valZ_mag, magN_rv, magN_rv, e1, e2]
  unfold sgn
  cases negB x <;> simp
theorem eU_fin {x : Nat} (h : finB x) : eU x = valZ x := by unfold eU; rw [(finF_iff h.1).2 h, if_pos rfl]
theorem fold_neg {h g : Nat → Int} : ∀ n, (∀ i, i < n → g i = -h i) → foldN (fun a b : Int => a + b) 0 g n = -foldN (fun a b : Int => a + b) 0 h n
  | 0, _ => rfl
  | n + 1, hh => by
    show foldN _ _ g n + g n = -(foldN _ _ h n + h n)
    rw [fold_neg n fun i hi => hh i (by omega), hh n (by omega)]; omega
theorem fold_false {h : Nat → Bool} : ∀ n, (∀ i, i < n → h i = false) → foldN Bool.or false h n = false
  | 0, _ => rfl
  | n + 1, hh => by
    show Bool.or (foldN Bool.or false h n) (h n) = false
    rw [fold_false n fun i hi => hh i (by omega), hh n (by omega)]; rfl
/-- Finite numbers and their negatives sum to 0. -/
theorem exact_cancel {f g : Nat → Nat} {n : Nat} (hf : ∀ i, i < n → finB (f i)) (h1 : ∀ i, i < n → g i = f i) (h2 : ∀ i, i < n → g (n + i) = flipF (f i)) : exactV g (n + n) = 0 ∨ exactV g (n + n) = 9223372036854775808 := by
  have hg : ∀ i, i < n + n → finB (g i) := fun i hi => by
    rcases Nat.lt_or_ge i n with h | h
    · rw [h1 i h]; exact hf i h
    · rw [show i = n + (i - n) by omega, h2 _ (by omega)]; exact (flip_fin (hf _ (by omega))).1
  have aN : exN g (n + n) = false := by rw [exN_fold]; exact fold_false _ fun i hi => (hg i hi).2.1
  have aP : exP g (n + n) = false := by rw [exP_fold]; exact fold_false _ fun i hi => by unfold eP; rw [(hg i hi).2.2]; simp
  have aL : exL g (n + n) = false := by rw [exL_fold]; exact fold_false _ fun i hi => by unfold eL; rw [(hg i hi).2.2]; simp
  have aU : exSum g (n + n) = 0 := by
    rw [exSum_fold, foldN_add comm_sum]
    have e1 : foldN (fun a b : Int => a + b) 0 (fun i => eU (g i)) n = foldN (fun a b : Int => a + b) 0 (fun i => eU (f i)) n := foldN_congr n fun i hi => by rw [h1 i hi]
    have e2 := fold_neg (h := fun i => eU (f i)) (g := fun i => eU (g (n + i))) n fun i hi => by
      have hx := hf i hi
      rw [h2 i hi, eU_fin hx, eU_fin (flip_fin hx).1, (flip_fin hx).2]
    rw [e1, e2]; omega
  unfold exactV
  rw [aN, aP, aL, aU]
  unfold exV
  rw [Bool.false_and, Bool.or_false, if_neg Bool.false_ne_true, if_neg Bool.false_ne_true, if_neg Bool.false_ne_true, if_pos rfl]
  split
  · exact .inr rfl
  · exact .inl rfl
end Go.Pst

namespace Go.Pst
open Go Ieee Go.Proofs.Ytjakjnmfndfehaa
set_option linter.unusedVariables false
theorem arV_add_fin {x y : Nat} (hx : finB x) (hy : finB y) : arV .add x y = wrd (if valZ x + valZ y = 0 then negB x && negB y else decide (valZ x + valZ y < 0)) (rz (valZ x + valZ y).natAbs) := by
  unfold arV arN
  rw [add_fin' hx hy]
theorem nought_add {x : Nat} (hx : finB x) : finB (arV .add 0 x) ∧ valZ (arV .add 0 x) = valZ x ∧ negB (arV .add 0 x) = (if valZ x = 0 then false else negB x) := by
  have h0 : finB 0 := ⟨by omega, by decide, by decide⟩
  have v0 : valZ 0 = 0 := by decide
  obtain ⟨r, e1, e2, e3, e4⟩ := add_exact h0 hx (by rw [v0, Int.zero_add, ← mag_abs]; exact (rep_mag hx).1)
  have e : arV .add 0 x = r := by unfold arV arN; rw [e1]
  rw [e]
  rw [v0, Int.zero_add] at e3 e4
  refine ⟨e2, e3, e4.trans ?_⟩
  split
  · rfl
  · rename_i h
    rw [valZ_mag] at h ⊢
    unfold sgn at h ⊢
    cases negB x
    · simp only [Bool.false_eq_true, if_false] at h ⊢; exact decide_eq_false (by omega)
    · simp only [if_true] at h ⊢; exact decide_eq_true (by omega)
/-- Of two finite numbers, not both nought, the exact sum is the sum. -/
theorem exact_two {f : Nat → Nat} (h0 : finB (f 0)) (h1 : finB (f 1)) (hz : ¬ (magN (f 0) = 0 ∧ magN (f 1) = 0)) : exactV f 2 = keS f 2 := by
  obtain ⟨a1, a2, a3⟩ := nought_add h0
  have e : keS f 2 = arV .add (arV .add 0 (f 0)) (f 1) := rfl
  rw [e, arV_add_fin a1 h1, a2, a3]
  have aN : exN f 2 = false := by show ((false || nan64 (f 0)) || nan64 (f 1)) = false; rw [h0.2.1, h1.2.1]; rfl
  have aP : exP f 2 = false := by show ((false || eP (f 0)) || eP (f 1)) = false; unfold eP; rw [h0.2.2, h1.2.2]; simp
  have aL : exL f 2 = false := by show ((false || eL (f 0)) || eL (f 1)) = false; unfold eL; rw [h0.2.2, h1.2.2]; simp
  have aU : exSum f 2 = valZ (f 0) + valZ (f 1) := by show ((0 + eU (f 0)) + eU (f 1)) = _; rw [eU_fin h0, eU_fin h1, Int.zero_add]
  have aM : exM f 2 = true := by
    show ((false || eM (f 0)) || eM (f 1)) = true
    unfold eM
    rw [h0.2.1, h1.2.1, h0.2.2, h1.2.2]
    rcases Nat.eq_zero_or_pos (magN (f 0)) with g | g
    · have : magN (f 1) ≠ 0 := fun g2 => hz ⟨g, g2⟩
      simp [this]
    · have : magN (f 0) ≠ 0 := by omega
      simp [this]
  unfold exactV
  rw [aN, aP, aL, aU, aM]
  unfold exV fvN
  rw [Bool.false_and, Bool.or_false, if_neg Bool.false_ne_true, if_neg Bool.false_ne_true, if_neg Bool.false_ne_true, Bool.not_true, Bool.and_false, if_neg Bool.false_ne_true]
  by_cases hs : valZ (f 0) + valZ (f 1) = 0
  · rw [if_pos hs, if_pos hs, hs]
    have hm0 := mag_abs (f 0)
    have hm1 := mag_abs (f 1)
    have hv : valZ (f 0) ≠ 0 := fun g => hz ⟨by rw [hm0, g]; rfl, by rw [hm1]; omega⟩
    rw [if_neg hv]
    have hn : (negB (f 0) && negB (f 1)) = false := by
      have k0 := valZ_mag (f 0)
      have k1 := valZ_mag (f 1)
      unfold sgn at k0 k1
      cases g0 : negB (f 0)
      · rfl
      · cases g1 : negB (f 1)
        · rfl
        · rw [g0, if_pos rfl] at k0; rw [g1, if_pos rfl] at k1; omega
    rw [hn]
    decide
  · rw [if_neg hs, if_neg hs]; rfl
end Go.Pst
