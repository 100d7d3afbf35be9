/- total: two numbers, halves of a number, and what was lost: walks; the document's. No condition. -/
import Derived.Test.YtjakjnmfndfehaaTv
namespace Go.Pst
open Go Ieee Go.Proofs.Ytjakjnmfndfehaa
set_option linter.unusedVariables false
def twS (a b : Nat) : Nat := arV .add a b
def twT (a b : Nat) : Nat := arV .sub (twS a b) a
def twL (a b : Nat) : Nat := arV .add (arV .sub a (arV .sub (twS a b) (twT a b))) (arV .sub b (twT a b))
theorem cut_lt64 (q : Nat) (x y : Nat) : (Question.nanBits .f64 x y).cut q < 2 ^ 64 := by
  unfold Question.cut
  simp only
  have h1 : q % 2 = 0 ∨ q % 2 = 1 := by omega
  have h2 : q / 2 % (2 ^ 52 - 1) < 2 ^ 52 - 1 := Nat.mod_lt _ (by decide)
  generalize q / 2 % (2 ^ 52 - 1) = z at *
  omega
theorem arU_lt (op : BinOp) (w : World) (x y : Nat) : arU op w x y < 2 ^ 64 := by
  unfold arU
  cases h : arD op x y with
  | some r => exact (arD_some h).2
  | none => exact cut_lt64 _ _ _
theorem arU_of {op : BinOp} {w : World} {x y x' y' : Nat} (hx : cn x = cn x') (hy : cn y = cn y') : cn (arU op w x y) = arV op x' y' := by
  rw [cn_arU]; exact arV_cn op hx hy
theorem arU_of2 {op : BinOp} {w : World} {x y x' y' : Nat} (hx : cn x = cn x') (hy : cn y = cn y') : cn (arU op w x y) = cn (arV op x' y') := by
  rw [cn_arV]; exact arU_of hx hy
end Go.Pst
namespace Go.Proofs.Ytjakjnmfndfehaa
open Go.RowKit Go.Pst
set_option maxRecDepth 20000
set_option linter.unusedSimpArgs false
set_option linter.unusedVariables false
attribute [local go_sem] run_fadd run_fsub run_fmul

def TwoPost (x y : Nat) (w : World) (en : Ending) (w' : World) : Prop := ∃ u v, en = .returned (.tuple #[.float .f64 u, .float .f64 v]) ∧ cn u = x ∧ cn v = y ∧ Below w.heap.size w w'

set_option maxHeartbeats 1000000 in
theorem rtwo_any (a b : Nat) (w : World) : Calls Try.prog 39 #[.float .f64 a, .float .f64 b] w (TwoPost (twS a b) (twL a b) w) := by
  go_enter Try.func39, Try.ntmps39
  go_wp2_with fail
  go_ret2
  refine ⟨_, _, rfl, cn_arU _ _ _ _, ?_, ?_⟩
  · have h1 : ∀ w, cn (arU .add w a b) = cn (twS a b) := fun w => by rw [cn_arU]; unfold twS; rw [cn_arV]
    have h2 : ∀ w w2, cn (arU .sub w (arU .add w2 a b) a) = cn (twT a b) := fun w w2 => arU_of2 (h1 _) rfl
    exact arU_of (arU_of2 rfl (arU_of2 (h1 _) (h2 _ _))) (arU_of2 rfl (h2 _ _))
  · exact wIf_below _ _ (wIf_below _ _ (wIf_below _ _ (wIf_below _ _ (wIf_below _ _ (wIf_below _ _ (Below.refl _ _))))))
set_option maxHeartbeats 1000000 in
theorem two_any (a b : Nat) (w : World) : Calls Try.prog 31 #[.float .f64 a, .float .f64 b] w (TwoPost (twS a b) (twL a b) w) := by
  go_enter Try.func31, Try.ntmps31
  go_wp2_with fail
  go_ret2
  refine ⟨_, _, rfl, cn_arU _ _ _ _, ?_, ?_⟩
  · have h1 : ∀ w, cn (arU .add w a b) = cn (twS a b) := fun w => by rw [cn_arU]; unfold twS; rw [cn_arV]
    have h2 : ∀ w w2, cn (arU .sub w (arU .add w2 a b) a) = cn (twT a b) := fun w w2 => arU_of2 (h1 _) rfl
    exact arU_of (arU_of2 rfl (arU_of2 (h1 _) (h2 _ _))) (arU_of2 rfl (h2 _ _))
  · exact wIf_below _ _ (wIf_below _ _ (wIf_below _ _ (wIf_below _ _ (wIf_below _ _ (wIf_below _ _ (Below.refl _ _))))))
def spC : Nat := 4728779608772575232
def spH (a : Nat) : Nat := arV .sub (arV .mul spC a) (arV .sub (arV .mul spC a) a)
set_option maxHeartbeats 1000000 in
theorem split_any (a : Nat) (w : World) : Calls Try.prog 40 #[.float .f64 a] w (TwoPost (spH a) (arV .sub a (spH a)) w) := by
  go_enter Try.func40, Try.ntmps40
  go_wp2_with fail
  go_ret2
  have h1 : ∀ w, cn (arU .mul w spC a) = cn (arV .mul spC a) := fun w => by rw [cn_arU, cn_arV]
  have h2 : ∀ w1 w2 w3 w4, cn (arU .sub w1 (arU .mul w2 spC a) (arU .sub w3 (arU .mul w4 spC a) a)) = spH a := fun w1 w2 w3 w4 => arU_of (h1 _) (arU_of2 (h1 _) rfl)
  refine ⟨_, _, rfl, h2 _ _ _ _, ?_, ?_⟩
  · exact arU_of rfl (by rw [show cn (spH a) = spH a from cn_arV _ _ _]; exact h2 _ _ _ _)
  · exact wIf_below _ _ (wIf_below _ _ (wIf_below _ _ (wIf_below _ _ (Below.refl _ _))))
set_option maxHeartbeats 1000000 in
theorem rsplit_any (a : Nat) (w : World) : Calls Try.prog 41 #[.float .f64 a] w (TwoPost (spH a) (arV .sub a (spH a)) w) := by
  go_enter Try.func41, Try.ntmps41
  go_wp2_with fail
  go_ret2
  have h1 : ∀ w, cn (arU .mul w spC a) = cn (arV .mul spC a) := fun w => by rw [cn_arU, cn_arV]
  have h2 : ∀ w1 w2 w3 w4, cn (arU .sub w1 (arU .mul w2 spC a) (arU .sub w3 (arU .mul w4 spC a) a)) = spH a := fun w1 w2 w3 w4 => arU_of (h1 _) (arU_of2 (h1 _) rfl)
  refine ⟨_, _, rfl, h2 _ _ _ _, ?_, ?_⟩
  · exact arU_of rfl (by rw [show cn (spH a) = spH a from cn_arV _ _ _]; exact h2 _ _ _ _)
  · exact wIf_below _ _ (wIf_below _ _ (wIf_below _ _ (wIf_below _ _ (Below.refl _ _))))
attribute [local go_sem] run_fneg
def sizV (b : Nat) : Nat := if flt .f64 b 0 then flipF b else b
theorem rsize_any (b : Nat) (w : World) : Calls Try.prog 87 #[.float .f64 b] w fun en w' => en = .returned (.float .f64 (sizV b)) ∧ w = w' := by
  obtain ⟨r, hr⟩ : ∃ r, r = sizV b := ⟨_, rfl⟩
  rw [← hr]
  unfold sizV at hr
  cases h : flt .f64 b 0
  · rw [h, if_neg Bool.false_ne_true] at hr
    rw [hr]
    clear hr
    go_enter Try.func87, Try.ntmps87
    go_wp2_with fail
    go_ret
    exact ⟨rfl, rfl⟩
  · rw [h, if_pos rfl] at hr
    have HR := Lib.hid hr.symm
    clear hr
    go_enter Try.func87, Try.ntmps87
    go_wp2_with fail
    go_ret
    exact ⟨congrArg (fun x => Ending.returned (Value.float .f64 x)) HR.out, rfl⟩
def KeptPost (x y : Nat) (w : World) (en : Ending) (w' : World) : Prop := ∃ u v, en = .returned (.tuple #[.float .f64 u, .float .f64 v, .int .i64 0]) ∧ cn u = x ∧ cn v = y ∧ Below w.heap.size w w'
def keG (s x : Nat) : Bool := !(nan64 s || nan64 x) && decide (x % 9223372036854775808 ≤ s % 9223372036854775808)
def keS (f : Nat → Nat) : Nat → Nat
  | 0 => 0
  | k + 1 => arV .add (keS f k) (f k)
def keL (f : Nat → Nat) : Nat → Nat
  | 0 => 0
  | k + 1 => if keG (keS f k) (f k) then arV .add (keL f k) (arV .add (arV .sub (keS f k) (arV .add (keS f k) (f k))) (f k))
      else arV .add (keL f k) (arV .add (arV .sub (f k) (arV .add (keS f k) (f k))) (keS f k))
theorem keL_succ (f : Nat → Nat) (k : Nat) : keL f (k + 1) = if keG (keS f k) (f k) then arV .add (keL f k) (arV .add (arV .sub (keS f k) (arV .add (keS f k) (f k))) (f k)) else arV .add (keL f k) (arV .add (arV .sub (f k) (arV .add (keS f k) (f k))) (keS f k)) := rfl
theorem keL_cn (f : Nat → Nat) : ∀ k, cn (keL f k) = keL f k
  | 0 => rfl
  | k + 1 => by
    unfold keL
    split
    · exact cn_arV _ _ _
    · exact cn_arV _ _ _
theorem keG_cn {s t : Nat} (x : Nat) (h : cn s = cn t) : keG s x = keG t x := by
  have e1 : nan64 s = nan64 t := by rw [← cn_nan s, ← cn_nan t, h]
  unfold keG
  rw [e1]
  cases hn : nan64 t
  · rw [cn_of s (e1.trans hn), cn_of t hn] at h; rw [h]
  · rfl
theorem ge_abs (s x : Nat) : (fgt .f64 (s % 9223372036854775808) (x % 9223372036854775808) || feq .f64 (s % 9223372036854775808) (x % 9223372036854775808)) = keG s x := by
  have n1 : ∀ b, nan64 (b % 9223372036854775808) = nan64 b := fun b => by unfold nan64; rw [Nat.mod_mod]
  have k1 : ∀ b, key64 (b % 9223372036854775808) = ((b % 9223372036854775808 : Nat) : Int) := fun b => by unfold key64; rw [if_neg (by omega), Nat.mod_mod]
  rw [fgt64, feq64, n1, n1, k1, k1]
  unfold keG
  cases nan64 s <;> cases nan64 x <;> simp
  rw [Bool.eq_iff_iff]
  simp
  omega
set_option maxHeartbeats 2000000 in
theorem kept_any (n c : Nat) (A : Option Addr) (f : Nat → Nat) (w : World) (hA : FlAt w w.heap.size A n f) (hn : n ≤ 65536) (hf : ∀ j, j < n → f j < 2 ^ 64) :
    Calls Try.prog 37 #[.slice A n c] w (KeptPost (arV .add (keS f n) (keL f n)) (keL f n) w) := by
  have HLG := Lib.hid fun w => long_f n c A w (by omega)
  rw [decide_eq_false (by omega : ¬ 65536 < n)] at HLG
  have HA := Lib.hid hA
  have HSZ := Lib.hid fun b w hb => mabs_any b w hb
  have HF := Lib.hid hf
  clear hA hf
  go_enter Try.func37, Try.ntmps37
  go_wp2_with fail
  refine (HLG.out _).mono ?_
  rintro en w' ⟨rfl, rfl⟩
  go_wp2_with fail
  go_loopw [5, 6, 14] (fun s l t wr => ∃ k S L : Nat, t = .int .i64 k ∧ k ≤ n ∧ Below w.heap.size w wr ∧ s = .float .f64 S ∧ S < 2 ^ 64 ∧ l = .float .f64 L ∧ cn S = cn (keS f k) ∧ cn L = cn (keL f k)) (fun _ _ t _ => n - (intOf t).toNat)
  case atStart => exact ⟨0, 0, 0, rfl, by omega, Below.refl _ _, rfl, by omega, rfl, rfl, rfl⟩
  case round =>
    obtain ⟨k, S, L, rfl, hk, hbw, rfl, hSlt, rfl, hS, hL⟩ := hrel
    have BW := Lib.hid hbw; have HS := Lib.hid hS; have HL := Lib.hid hL
    clear hbw hS hL
    by_cases hkn : k < n
    · have h3 : (k : Int) < (n : Int) := by omega
      obtain ⟨a, o, rfl, ha, hc⟩ := (HA.out.below BW.out (Nat.le_refl _)) (by omega)
      have q := hc k hkn
      have HX := Lib.hid (HF.out k hkn)
      obtain ⟨x, hx⟩ : ∃ x, x = f k := ⟨_, rfl⟩
      rw [← hx] at q HX
      have HXE := Lib.hid hx
      clear hc hx
      go_wp2_with fail
      refine (HSZ.out _ _ hSlt).mono ?_
      rintro en w' ⟨rfl, rfl⟩
      go_wp2_with fail
      refine (HSZ.out _ _ HX.out).mono ?_
      rintro en w' ⟨rfl, rfl⟩
      have GE := Lib.hid ((ge_abs S x).trans (keG_cn x HS.out))
      clear hSlt
      go_wp2_with fail
      · have h := ‹fgt .f64 (S % 9223372036854775808) (x % 9223372036854775808) = true ∨ feq .f64 (S % 9223372036854775808) (x % 9223372036854775808) = true›
        have hg : keG (keS f k) x = true := by rw [← GE.out]; rcases h with h | h <;> rw [h] <;> simp
        have h1 : ∀ w, cn (arU .add w S x) = cn (arV .add (keS f k) x) := fun w => arU_of2 HS.out rfl
        have e1 : keS f (k + 1) = arV .add (keS f k) x := by rw [HXE.out]; rfl
        have e2 : keL f (k + 1) = arV .add (keL f k) (arV .add (arV .sub (keS f k) (arV .add (keS f k) x)) x) := by
          rw [HXE.out] at hg ⊢; rw [keL_succ]
          rw [hg, if_pos rfl]
        have E1 := Lib.hid e1; have E2 := Lib.hid e2; have H1 := Lib.hid h1
        clear e1 e2 h1 hg h
        go_roundw
        case rel => exact ⟨k + 1, _, _, by go_num, by omega, wIf_below _ _ (wIf_below _ _ (wIf_below _ _ (wIf_below _ _ BW.out))), rfl, arU_lt _ _ _ _, rfl, by rw [E1.out]; exact H1.out _, by rw [E2.out]; exact arU_of2 HL.out (arU_of2 (arU_of2 HS.out (H1.out _)) rfl)⟩
        case measure => (simp [intOf] <;> omega)
      · have h := ‹fgt .f64 (S % 9223372036854775808) (x % 9223372036854775808) = false ∧ feq .f64 (S % 9223372036854775808) (x % 9223372036854775808) = false›
        have hg : keG (keS f k) x = false := by rw [← GE.out, h.1, h.2]; rfl
        have h1 : ∀ w, cn (arU .add w S x) = cn (arV .add (keS f k) x) := fun w => arU_of2 HS.out rfl
        have e1 : keS f (k + 1) = arV .add (keS f k) x := by rw [HXE.out]; rfl
        have e2 : keL f (k + 1) = arV .add (keL f k) (arV .add (arV .sub x (arV .add (keS f k) x)) (keS f k)) := by
          rw [HXE.out] at hg ⊢; rw [keL_succ]
          rw [hg, if_neg Bool.false_ne_true]
        have E1 := Lib.hid e1; have E2 := Lib.hid e2; have H1 := Lib.hid h1
        clear e1 e2 h1 hg h
        go_roundw
        case rel => exact ⟨k + 1, _, _, by go_num, by omega, wIf_below _ _ (wIf_below _ _ (wIf_below _ _ (wIf_below _ _ BW.out))), rfl, arU_lt _ _ _ _, rfl, by rw [E1.out]; exact H1.out _, by rw [E2.out]; exact arU_of2 HL.out (arU_of2 (arU_of2 rfl (H1.out _)) HS.out)⟩
        case measure => (simp [intOf] <;> omega)
    · obtain rfl : k = n := by omega
      go_wp2_with fail
      go_ret3
      exact ⟨_, _, rfl, arU_of HS.out HL.out, HL.out.trans (keL_cn f k), wIf_below _ _ BW.out⟩
end Go.Proofs.Ytjakjnmfndfehaa
