/- total: the sum in order, of products, polynomials: walks; the document's. Condition: at most 65536 numbers of 64 bits. -/
import Derived.Test.YtjakjnmfndfehaaTw
namespace Go.Proofs.Ytjakjnmfndfehaa
open Go.RowKit Go.Pst
set_option maxRecDepth 20000
set_option linter.unusedSimpArgs false
set_option linter.unusedVariables false
attribute [local go_sem] run_fadd run_fsub run_fmul

/-- A float as V but for which no number it is, and an answer e. -/
def FeLike (v : Nat) (e : Int) (w : World) (en : Ending) (w' : World) : Prop := ∃ u, en = .returned (.tuple #[.float .f64 u, .int .i64 e]) ∧ cn u = cn v ∧ Below w.heap.size w w'
def FlLike (v : Nat) (w : World) (en : Ending) (w' : World) : Prop := ∃ u, en = .returned (.float .f64 u) ∧ cn u = cn v ∧ Below w.heap.size w w'

set_option maxHeartbeats 1000000 in
theorem sum_any (n c : Nat) (A : Option Addr) (f : Nat → Nat) (w : World) (hA : FlAt w w.heap.size A n f) (hn : n ≤ 65536) :
    Calls Try.prog 30 #[.slice A n c] w (FeLike (keS f n) 0 w) := by
  have HLG := Lib.hid fun w => long_f n c A w (by omega)
  rw [decide_eq_false (by omega : ¬ 65536 < n)] at HLG
  have HA := Lib.hid hA
  clear hA
  go_enter Try.func30, Try.ntmps30
  go_wp2_with fail
  refine (HLG.out _).mono ?_
  rintro en w' ⟨rfl, rfl⟩
  go_wp2_with fail
  go_loopw [4, 11] (fun s t wr => ∃ k S : Nat, t = .int .i64 k ∧ k ≤ n ∧ Below w.heap.size w wr ∧ s = .float .f64 S ∧ cn S = cn (keS f k)) (fun _ t _ => n - (intOf t).toNat)
  case atStart => exact ⟨0, 0, rfl, by omega, Below.refl _ _, rfl, rfl⟩
  case round =>
    obtain ⟨k, S, rfl, hk, hbw, rfl, hS⟩ := hrel
    have BW := Lib.hid hbw; have HS := Lib.hid hS
    clear hbw hS
    by_cases hkn : k < n
    · have h3 : (k : Int) < (n : Int) := by omega
      have h0 : (0 : Int) ≤ (k : Int) := by omega
      obtain ⟨a, o, rfl, ha, hc⟩ := (HA.out.below BW.out (Nat.le_refl _)) (by omega)
      have q := hc k hkn
      have e1 : keS f (k + 1) = arV .add (keS f k) (f k) := rfl
      obtain ⟨x, hx⟩ : ∃ x, x = f k := ⟨_, rfl⟩
      rw [← hx] at q e1
      have E1 := Lib.hid e1
      clear hc hx e1
      go_wp2_with fail
      go_roundw
      case rel => exact ⟨k + 1, _, by go_num, by omega, wIf_below _ _ BW.out, rfl, by rw [E1.out]; exact arU_of2 HS.out rfl⟩
      case measure => (simp [intOf] <;> omega)
    · obtain rfl : k = n := by omega
      go_wp2_with fail
      go_ret2
      exact ⟨_, rfl, HS.out, BW.out⟩
set_option maxHeartbeats 1000000 in
theorem rsum_any (n c : Nat) (A : Option Addr) (f : Nat → Nat) (w : World) (hA : FlAt w w.heap.size A n f) (hn : n ≤ 65536) :
    Calls Try.prog 46 #[.slice A n c] w (FlLike (keS f n) w) := by
  have HA := Lib.hid hA
  clear hA
  go_enter Try.func46, Try.ntmps46
  go_wp2_with fail
  go_loopw [3, 4] (fun s t wr => ∃ k S : Nat, t = .int .i64 k ∧ k ≤ n ∧ Below w.heap.size w wr ∧ s = .float .f64 S ∧ cn S = cn (keS f k)) (fun _ t _ => n - (intOf t).toNat)
  case atStart => exact ⟨0, 0, rfl, by omega, Below.refl _ _, rfl, rfl⟩
  case round =>
    obtain ⟨k, S, rfl, hk, hbw, rfl, hS⟩ := hrel
    have BW := Lib.hid hbw; have HS := Lib.hid hS
    clear hbw hS
    by_cases hkn : k < n
    · have h3 : (k : Int) < (n : Int) := by omega
      have h0 : (0 : Int) ≤ (k : Int) := by omega
      obtain ⟨a, o, rfl, ha, hc⟩ := (HA.out.below BW.out (Nat.le_refl _)) (by omega)
      have q := hc k hkn
      have e1 : keS f (k + 1) = arV .add (keS f k) (f k) := rfl
      obtain ⟨x, hx⟩ : ∃ x, x = f k := ⟨_, rfl⟩
      rw [← hx] at q e1
      have E1 := Lib.hid e1
      clear hc hx e1
      go_wp2_with fail
      go_roundw
      case rel => exact ⟨k + 1, _, by go_num, by omega, wIf_below _ _ BW.out, rfl, by rw [E1.out]; exact arU_of2 HS.out rfl⟩
      case measure => (simp [intOf] <;> omega)
    · obtain rfl : k = n := by omega
      go_wp2_with fail
      go_ret
      exact ⟨_, rfl, HS.out, BW.out⟩

def doS (f g : Nat → Nat) : Nat → Nat
  | 0 => 0
  | k + 1 => arV .add (doS f g k) (arV .mul (f k) (g k))
/-- What both says of two lengths. -/
def bothV (n m : Nat) : Int := if 65536 < n ∨ 65536 < m then 50 else if n = m then 0 else 51
theorem both_any (n c m d : Nat) (A B : Option Addr) (w : World) (hn : n ≤ 65536) (hm : m ≤ 65536) :
    Calls Try.prog 90 #[.slice A n c, .slice B m d] w fun en w' => en = .returned (.int .i64 (if n = m then 0 else 51)) ∧ w = w' := by
  have HL1 := Lib.hid fun w => long_f n c A w (by omega)
  rw [decide_eq_false (by omega : ¬ 65536 < n)] at HL1
  have HL2 := Lib.hid fun w => long_f m d B w (by omega)
  rw [decide_eq_false (by omega : ¬ 65536 < m)] at HL2
  by_cases h : n = m
  · subst h
    rw [if_pos rfl]
    go_enter Try.func90, Try.ntmps90
    go_wp2_with fail
    refine (HL1.out _).mono ?_
    rintro en w' ⟨rfl, rfl⟩
    go_wp2_with fail
    refine (HL2.out _).mono ?_
    rintro en w' ⟨rfl, rfl⟩
    go_wp2_with fail
    go_ret
    exact ⟨rfl, rfl⟩
  · rw [if_neg h]
    have h2 : ((n : Int) == (m : Int)) = false := by simp; omega
    have h3 : ((n : Int) != (m : Int)) = true := by simp; omega
    have h4 : ¬ (n : Int) = (m : Int) := by omega
    clear h
    go_enter Try.func90, Try.ntmps90
    go_wp2_with fail
    refine (HL1.out _).mono ?_
    rintro en w' ⟨rfl, rfl⟩
    go_wp2_with fail
    refine (HL2.out _).mono ?_
    rintro en w' ⟨rfl, rfl⟩
    go_wp2_with fail
    go_ret
    exact ⟨rfl, rfl⟩

set_option maxHeartbeats 1000000 in
theorem dot_any (n c d : Nat) (A B : Option Addr) (f g : Nat → Nat) (w : World) (hA : FlAt w w.heap.size A n f) (hB : FlAt w w.heap.size B n g) (hn : n ≤ 65536) :
    Calls Try.prog 48 #[.slice A n c, .slice B n d] w (FeLike (doS f g n) 0 w) := by
  have HBO := Lib.hid fun w => both_any n c n d A B w hn hn
  rw [if_pos rfl] at HBO
  have HA := Lib.hid hA; have HB := Lib.hid hB
  clear hA hB
  go_enter Try.func48, Try.ntmps48
  go_wp2_with fail
  refine (HBO.out _).mono ?_
  rintro en w' ⟨rfl, rfl⟩
  go_wp2_with fail
  go_loopw [7, 18] (fun s t wr => ∃ k S : Nat, t = .int .i64 k ∧ k ≤ n ∧ Below w.heap.size w wr ∧ s = .float .f64 S ∧ cn S = cn (doS f g k)) (fun _ t _ => n - (intOf t).toNat)
  case atStart => exact ⟨0, 0, rfl, by omega, Below.refl _ _, rfl, rfl⟩
  case round =>
    obtain ⟨k, S, rfl, hk, hbw, rfl, hS⟩ := hrel
    have BW := Lib.hid hbw; have HS := Lib.hid hS
    clear hbw hS
    by_cases hkn : k < n
    · have h3 : (k : Int) < (n : Int) := by omega
      have h0 : (0 : Int) ≤ (k : Int) := by omega
      obtain ⟨a, o, rfl, ha, hc⟩ := (HA.out.below BW.out (Nat.le_refl _)) (by omega)
      obtain ⟨b, o2, rfl, hb, hc2⟩ := (HB.out.below BW.out (Nat.le_refl _)) (by omega)
      have q := hc k hkn
      have q2 := hc2 k hkn
      have e1 : doS f g (k + 1) = arV .add (doS f g k) (arV .mul (f k) (g k)) := rfl
      obtain ⟨x, hx⟩ : ∃ x, x = f k := ⟨_, rfl⟩
      obtain ⟨y, hy⟩ : ∃ y, y = g k := ⟨_, rfl⟩
      rw [← hx] at q e1
      rw [← hy] at q2 e1
      have E1 := Lib.hid e1
      clear hc hc2 hx hy e1
      go_wp2_with fail
      go_roundw
      case rel => exact ⟨k + 1, _, by go_num, by omega, wIf_below _ _ (wIf_below _ _ BW.out), rfl, by rw [E1.out]; exact arU_of2 HS.out (arU_of2 rfl rfl)⟩
      case measure => (simp [intOf] <;> omega)
    · obtain rfl : k = n := by omega
      go_wp2_with fail
      go_ret2
      exact ⟨_, rfl, HS.out, BW.out⟩
set_option maxHeartbeats 1000000 in
theorem rdot_any (n c d : Nat) (A B : Option Addr) (f g : Nat → Nat) (w : World) (hA : FlAt w w.heap.size A n f) (hB : FlAt w w.heap.size B n g) (hn : n ≤ 65536) :
    Calls Try.prog 52 #[.slice A n c, .slice B n d] w (FlLike (doS f g n) w) := by
  have HA := Lib.hid hA; have HB := Lib.hid hB
  clear hA hB
  go_enter Try.func52, Try.ntmps52
  go_wp2_with fail
  go_loopw [5, 6] (fun s t wr => ∃ k S : Nat, t = .int .i64 k ∧ k ≤ n ∧ Below w.heap.size w wr ∧ s = .float .f64 S ∧ cn S = cn (doS f g k)) (fun _ t _ => n - (intOf t).toNat)
  case atStart => exact ⟨0, 0, rfl, by omega, Below.refl _ _, rfl, rfl⟩
  case round =>
    obtain ⟨k, S, rfl, hk, hbw, rfl, hS⟩ := hrel
    have BW := Lib.hid hbw; have HS := Lib.hid hS
    clear hbw hS
    by_cases hkn : k < n
    · have h3 : (k : Int) < (n : Int) := by omega
      have h0 : (0 : Int) ≤ (k : Int) := by omega
      obtain ⟨a, o, rfl, ha, hc⟩ := (HA.out.below BW.out (Nat.le_refl _)) (by omega)
      obtain ⟨b, o2, rfl, hbb, hc2⟩ := (HB.out.below BW.out (Nat.le_refl _)) (by omega)
      have q := hc k hkn
      have q2 := hc2 k hkn
      have e1 : doS f g (k + 1) = arV .add (doS f g k) (arV .mul (f k) (g k)) := rfl
      obtain ⟨x, hx⟩ : ∃ x, x = f k := ⟨_, rfl⟩
      obtain ⟨y, hy⟩ : ∃ y, y = g k := ⟨_, rfl⟩
      rw [← hx] at q e1
      rw [← hy] at q2 e1
      have E1 := Lib.hid e1
      clear hc hc2 hx hy e1
      have hal : a < wr.heap.size := Nat.lt_of_lt_of_le ha BW.out.size
      have hbl : b < wr.heap.size := Nat.lt_of_lt_of_le hbb BW.out.size
      go_wp2_with fail
      refine Reg.wp_region_rn [13, 22, 23, 5] (by kernel_rfl) (by kernel_rfl) (fun _ => ?_)
      refine Reg.op1 Reg.rn_class (fun _ _ => trivial) rfl rfl 5 _ rfl rfl ⟨.float .f64 (S), ?_, ?_⟩
      · intro u1 g1 w' hb; clear hb; have G1 := Lib.hid g1; clear g1; simp only [Act.put, List.setIfInBounds_toArray, List.set_cons_zero, List.set_cons_succ]; go_simp; exact ⟨Below.refl _ _, .inr ⟨rfl, G1.out⟩⟩
      intro a' ha'; simp only [Act.put, List.setIfInBounds_toArray, List.set_cons_zero, List.set_cons_succ] at ha'; subst ha'
      repeat (refine Reg.op0e Reg.rn_class (fun _ _ => trivial) rfl rfl rfl ?_; apply Exists.intro; apply And.intro; (intro w' hb; have hc := Reg.rd_cells hb; clear hb; go_simp; (try go_bits); first | done | (with_reducible exact rfl)); (intro a' ha'; simp only [Act.put, List.setIfInBounds_toArray, List.set_cons_zero, List.set_cons_succ] at ha'; subst ha'))
      refine Reg.op0 Reg.rn_class (fun _ _ => trivial) rfl rfl rfl ⟨.float .f64 ((arV .mul x y)), ?_, ?_⟩
      · intro w' hb; have hc := Reg.rd_cells hb; clear hb; go_simp; exact ⟨wIf_refl _ _, .inr ⟨rfl, veq_of_cn (arU_of2 rfl rfl)⟩⟩
      intro a' ha'; simp only [Act.put, List.setIfInBounds_toArray, List.set_cons_zero, List.set_cons_succ] at ha'; subst ha'
      refine Reg.op2 Reg.rn_class (fun _ _ => trivial) rfl rfl 13 22 _ _ rfl rfl rfl ⟨.float .f64 ((arV .add S (arV .mul x y))), ?_, ?_⟩
      · intro u1 u2 g1 g2 w' hb; obtain ⟨y1, rfl, f1⟩ := cn_of_veq g1; obtain ⟨y2, rfl, f2⟩ := cn_of_veq g2; clear g1 g2; have hc := Reg.rd_cells hb; clear hb; have F1 := Lib.hid f1; have F2 := Lib.hid f2; clear f1 f2; simp only [Act.put, List.setIfInBounds_toArray, List.set_cons_zero, List.set_cons_succ]; go_simp; have f1 := F1.out; have f2 := F2.out; exact ⟨wIf_refl _ _, .inr ⟨rfl, veq_of_cn (arU_of2 f1 f2)⟩⟩
      intro a' ha'; simp only [Act.put, List.setIfInBounds_toArray, List.set_cons_zero, List.set_cons_succ] at ha'; subst ha'
      refine Reg.op1 Reg.rn_class (fun _ _ => trivial) rfl rfl 23 _ rfl rfl ⟨.float .f64 ((arV .add S (arV .mul x y))), ?_, ?_⟩
      · intro u1 g1 w' hb; clear hb; have G1 := Lib.hid g1; clear g1; simp only [Act.put, List.setIfInBounds_toArray, List.set_cons_zero, List.set_cons_succ]; go_simp; exact ⟨Below.refl _ _, .inr ⟨rfl, G1.out⟩⟩
      intro a' ha'; simp only [Act.put, List.setIfInBounds_toArray, List.set_cons_zero, List.set_cons_succ] at ha'; subst ha'
      refine Reg.rn_endv [(13, .float .f64 (S)), (22, .float .f64 ((arV .mul x y))), (23, .float .f64 ((arV .add S (arV .mul x y)))), (5, .float .f64 ((arV .add S (arV .mul x y))))] rfl (fun wz hb => ?_)
      refine ⟨rfl, fun u hu => ?_⟩
      obtain ⟨z13, rfl, k13⟩ := cn_of_veq hu; clear hu
      refine ⟨rfl, fun u hu => ?_⟩
      obtain ⟨z22, rfl, k22⟩ := cn_of_veq hu; clear hu
      refine ⟨rfl, fun u hu => ?_⟩
      obtain ⟨z23, rfl, k23⟩ := cn_of_veq hu; clear hu
      refine ⟨rfl, fun u hu => ?_⟩
      obtain ⟨z5, rfl, k5⟩ := cn_of_veq hu; clear hu
      simp only [Reg.endv, Act.put, List.setIfInBounds_toArray, List.set_cons_zero, List.set_cons_succ]
      have BW2 := Lib.hid (BW.out.trans (hb.mono BW.out.size))
      clear hb
      have HZ : Hid (cn z5 = cn (doS f g (k + 1))) := Lib.hid (by rw [k5, E1.out, cn_arV, cn_arV]; exact arV_cn .add HS.out rfl)
      clear k13 k22 k23 k5
      go_wp2_with fail
      go_roundw
      case rel => exact ⟨k + 1, _, by go_num, by omega, BW2.out, rfl, HZ.out⟩
      case measure => (simp [intOf] <;> omega)
    · obtain rfl : k = n := by omega
      go_wp2_with fail
      go_ret
      exact ⟨_, rfl, HS.out, BW.out⟩
theorem dot_pairs (n c m d : Nat) (A B : Option Addr) (w : World) (hn : n ≤ 65536) (hm : m ≤ 65536) (h : n ≠ m) :
    Calls Try.prog 48 #[.slice A n c, .slice B m d] w fun en w' => en = .returned (.tuple #[.float .f64 0, .int .i64 51]) ∧ w = w' := by
  have HBO := Lib.hid fun w => both_any n c m d A B w hn hm
  rw [if_neg h] at HBO
  clear h
  go_enter Try.func48, Try.ntmps48
  go_wp2_with fail
  refine (HBO.out _).mono ?_
  rintro en w' ⟨rfl, rfl⟩
  go_wp2_with fail
  go_ret2
  exact ⟨rfl, rfl⟩
end Go.Proofs.Ytjakjnmfndfehaa
