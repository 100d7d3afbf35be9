/- The document's exact sum: none, infinite, negative, parts, None, out: walks; and Exact. Conditions: numbers of 64 bits, at most 65536 of them. -/
import Derived.Test.YtjakjnmfndfehaaTs
import Derived.OwnWalk
namespace Go.Pst
open Go Ieee Go.Proofs.Ytjakjnmfndfehaa
set_option linter.unusedVariables false
theorem fgt_max {b : Nat} (hb : b < 2 ^ 64) : fgt .f64 b 9218868437227405311 = (infB b && !negB b) := by
  rw [fgt64, show nan64 9218868437227405311 = false by decide, show key64 9218868437227405311 = 9218868437227405311 from rfl]
  unfold nan64 infB key64 negB
  rw [Bool.eq_iff_iff]
  rcases Nat.lt_or_ge b 9223372036854775808 with h | h
  · rw [if_neg (by omega)]; simp; omega
  · rw [if_pos (by omega)]; simp; omega
theorem flt_min {b : Nat} (hb : b < 2 ^ 64) : flt .f64 b 18442240474082181119 = (infB b && negB b) := by
  rw [flt64, show nan64 18442240474082181119 = false by decide, show key64 18442240474082181119 = -9218868437227405311 from rfl]
  unfold nan64 infB key64 negB
  rw [Bool.eq_iff_iff]
  rcases Nat.lt_or_ge b 9223372036854775808 with h | h
  · rw [if_neg (by omega)]; simp; omega
  · rw [if_pos (by omega)]; simp; omega
theorem top_neg {b : Nat} (hb : b < 2 ^ 64) : (b : Int) / 9223372036854775808 = if negB b then 1 else 0 := by
  unfold negB
  split
  · rename_i h; have := of_decide_eq_true h; omega
  · rename_i h; have := of_decide_eq_false (by simpa using h : decide (9223372036854775808 ≤ b) = false); omega
def outV (S : Int) (all : Bool) : Nat := if S = 0 then (if all then 9223372036854775808 else 0) else if S < 0 then flipF (rndN 52 11 S.natAbs (-2200)) else rndN 52 11 S.natAbs (-2200)
end Go.Pst
namespace Go.Proofs.Ytjakjnmfndfehaa
open Go.RowKit Go.Pst
set_option maxRecDepth 20000
set_option linter.unusedSimpArgs false
set_option linter.unusedVariables false
attribute [local go_sem] m64bits m64from run_fneg

theorem pnone_any (b : Nat) (w : World) : Calls Try.prog 79 #[.float .f64 b] w fun en w' => en = .returned (.bool (nan64 b)) ∧ w = w' := by
  have h := fne_self b
  go_enter Try.func79, Try.ntmps79
  go_wp2
  go_ret
  exact ⟨by first | rfl | simp [h], rfl⟩
theorem pinf_any (b : Nat) (w : World) (hb : b < 2 ^ 64) : Calls Try.prog 81 #[.float .f64 b] w fun en w' => en = .returned (.bool (infB b)) ∧ w = w' := by
  have h1 := fgt_max hb
  have h2 := flt_min hb
  generalize infB b = i at *
  generalize negB b = n at *
  clear hb
  cases i <;> cases n <;> (
    go_enter Try.func81, Try.ntmps81
    go_wp2_with fail
    go_ret
    exact ⟨rfl, rfl⟩)
theorem pneg_any (b : Nat) (w : World) (hb : b < 2 ^ 64) : Calls Try.prog 82 #[.float .f64 b] w fun en w' => en = .returned (.bool (negB b)) ∧ w = w' := by
  have h1 := top_neg hb
  generalize negB b = n at *
  clear hb
  cases n
  · rw [if_neg Bool.false_ne_true] at h1
    go_enter Try.func82, Try.ntmps82
    go_wp2_with fail
    go_ret
    exact ⟨rfl, rfl⟩
  · rw [if_pos rfl] at h1
    go_enter Try.func82, Try.ntmps82
    go_wp2_with fail
    go_ret
    exact ⟨rfl, rfl⟩
theorem pparts_any (b : Nat) (w : World) (hb : b < 2 ^ 64) : Calls Try.prog 83 #[.float .f64 b] w fun en w' => en = .returned (.tuple #[.int .u64 (mantB b), .int .i64 ((placeB b : Int) - 1074), .bool (negB b)]) ∧ w = w' := by
  have h1 := top_neg hb
  have hE := u64_field b hb
  have hM : bits .and .u64 (b : Int) 4503599627370495 = ((b % 4503599627370496 : Nat) : Int) := and_mask (b := b) (n := 52) hb (by omega)
  have hO : bits .or .u64 ((b % 4503599627370496 : Nat) : Int) 4503599627370496 = ((4503599627370496 + b % 4503599627370496 : Nat) : Int) := by
    have := or_disj2 (x := b % 4503599627370496) (y := 1) (n := 52) (by omega) (by omega) (by omega)
    have e := or64 (a := b % 4503599627370496) (b := 4503599627370496) (by omega) (by omega)
    rw [show ((4503599627370496 : Nat) : Int) = 4503599627370496 from rfl] at e
    rw [e, Nat.or_comm]
    have h2 := Nat.two_pow_add_eq_or_of_lt (i := 52) (b := b % 4503599627370496) (by omega) 1
    rw [Nat.mul_one] at h2
    rw [show (4503599627370496 : Nat) = 2 ^ 52 from rfl] at h2 ⊢
    rw [← h2]
  unfold mantB placeB
  rw [show b / 4503599627370496 % 2048 = expF b from rfl] at hE
  have hE2 : expF b < 2048 := Nat.mod_lt _ (by omega)
  have hM2 : b % 4503599627370496 < 4503599627370496 := Nat.mod_lt _ (by omega)
  generalize b % 4503599627370496 = m at *
  generalize negB b = n at *
  generalize expF b = e at *
  clear hb
  by_cases h0 : e = 0
  · subst h0
    rw [if_pos rfl, show (((0 - 1 : Nat) : Int) - 1074) = -1074 from rfl]
    rw [show ((0 : Nat) : Int) = 0 from rfl] at hE
    cases n
    · rw [if_neg Bool.false_ne_true] at h1
      go_enter Try.func83, Try.ntmps83
      go_wp2_with fail
      go_ret3
      exact ⟨rfl, rfl⟩
    · rw [if_pos rfl] at h1
      go_enter Try.func83, Try.ntmps83
      go_wp2_with fail
      go_ret3
      exact ⟨rfl, rfl⟩
  · rw [if_neg h0, show (((e - 1 : Nat) : Int) - 1074) = (e : Int) - 1075 by omega]
    have h4 : ¬ (e : Int) = 0 := by omega
    have h4' : ((e : Int) == 0) = false := by simp; omega
    have h5 : 0 ≤ (e : Int) ∧ (e : Int) < 2048 := by omega
    cases n
    · rw [if_neg Bool.false_ne_true] at h1
      go_enter Try.func83, Try.ntmps83
      go_wp2_with fail
      go_ret3
      exact ⟨rfl, rfl⟩
    · rw [if_pos rfl] at h1
      go_enter Try.func83, Try.ntmps83
      go_wp2_with fail
      go_ret3
      exact ⟨rfl, rfl⟩
theorem pNone_any (w : World) : Calls Try.prog 80 #[] w fun en w' => en = .returned (.float .f64 9218868437227405313) ∧ w = w' := by
  go_enter Try.func80, Try.ntmps80
  go_wp2_with fail
  go_ret
  exact ⟨rfl, rfl⟩

set_option maxHeartbeats 4000000 in
theorem out_any (X : Nat → Int) (all : Bool) (b : Int) (w : World) (hb : 0 ≤ b ∧ b ≤ 1152921504606846976) (hX : ∀ i, i < 280 → -b ≤ X i ∧ X i ≤ b) (hs : (bv X 280).natAbs < D28) :
    Calls Try.prog 86 #[.agg (bcells X).toArray, .bool all] w fun en w' => en = .returned (.float .f64 (outV (bv X 280) all)) ∧ Below w.heap.size w w' := by
  have HST := Lib.hid fun w => settled_any X b w hb hX hs
  obtain ⟨S, hS⟩ : ∃ S, S = bv X 280 := ⟨_, rfl⟩
  rw [← hS] at HST ⊢
  have HN := Lib.hid fun (Y : Nat → Int) (w : World) (h1 : IsDig Y) (h2 : bv Y 280 = (S.natAbs : Int)) => rounded_any Y S.natAbs w h1 (by have := dv_bv (Y := Y) 280 h1; omega)
  obtain ⟨v, hv⟩ : ∃ v, v = outV S all := ⟨_, rfl⟩
  rw [← hv]
  have HV := Lib.hid hv
  clear hv hs hX hS
  go_enter Try.func86, Try.ntmps86
  go_wp2_with (with_reducible refine wpList_load_row rfl 88 _ rfl w.heap.size rfl 88 (bcells X).toArray (0, 0) _ (heap_alloc_new w _) Try.underlying88 rfl (info280' _) ?_)
  refine (HST.out _).mono ?_
  rintro en wn ⟨Y, rfl, hY, hbv, hbn⟩
  replace hbn : Below w.heap.size w wn := ((Below.refl _ _).alloc (Nat.le_refl _) _).trans (hbn.mono (by simp))
  have hsz : w.heap.size ≤ wn.heap.size := hbn.size
  have BW := Lib.hid hbn
  have HRN := Lib.hid fun w => HN.out Y w hY hbv
  have HA2 : Hid (∀ cs : Array Value, ((wn.alloc (.cells cs 88)).setRow wn.heap.size (bcells Y).toArray).heap[wn.heap.size]? = some (.cells (bcells Y).toArray 88 (0, 0))) := Lib.hid fun cs => setRow_heap _ _ cs _ _ _ (heap_alloc_new _ _)
  have BW2 : Hid (∀ cs : Array Value, Below w.heap.size w ((wn.alloc (.cells cs 88)).setRow wn.heap.size (bcells Y).toArray)) := Lib.hid fun cs => below_setRow (BW.out.alloc hsz _) hsz
  have hs2 : ∀ cs : Array Value, w.heap.size ≤ ((wn.alloc (.cells cs 88)).setRow wn.heap.size (bcells Y).toArray).heap.size := fun cs => by rw [setRow_size]; simp; omega
  have HS2 := Lib.hid hs2
  have hsg : sgnI S = if S < 0 then -1 else if S = 0 then 0 else 1 := rfl
  clear hbn hbv hY HN HST hs2
  have hov : outV S all = if S = 0 then (if all then 9223372036854775808 else 0) else if S < 0 then flipF (rndN 52 11 S.natAbs (-2200)) else rndN 52 11 S.natAbs (-2200) := rfl
  rw [← HV.out] at hov
  by_cases h0 : S = 0
  · rw [if_neg (by omega), if_pos h0] at hsg
    rw [if_pos h0] at hov
    have hr0 : rndN 52 11 S.natAbs (-2200) = 0 := by rw [h0]; unfold rndN; rw [if_pos (by rfl)]
    rw [hr0] at HRN
    rw [hsg]
    clear hsg hr0 h0
    cases all
    · have HVV := Lib.hid (hov.trans (if_neg Bool.false_ne_true))
      clear hov HV
      go_wp2_with (first
        | (with_reducible refine wpList_load_row rfl 88 _ rfl wn.heap.size rfl 88 (bcells Y).toArray (0, 0) _ (HA2.out _) Try.underlying88 rfl (info280' _) ?_)
        | (with_reducible refine wpList_store_row rfl 88 _ _ rfl wn.heap.size (bcells Y).toArray rfl rfl 88 (bcells fun _ => 0).toArray (by rw [heap_alloc_new, bcells_zero]) (info280' _) (by simp [bcells]) (all_oneCell_toArray (bcells_one _)) ?_))
      refine (HRN.out _).mono ?_
      rintro en wm ⟨rfl, hbm⟩
      have B3 := Lib.hid ((BW2.out _).trans (hbm.mono (HS2.out _)))
      clear hbm
      go_wp2_with fail
      go_ret
      exact ⟨congrArg (fun x => Ending.returned (Value.float .f64 x)) HVV.out.symm, B3.out⟩
    · have HVV := Lib.hid (hov.trans (if_pos rfl))
      clear hov HV
      go_wp2_with (first
        | (with_reducible refine wpList_load_row rfl 88 _ rfl wn.heap.size rfl 88 (bcells Y).toArray (0, 0) _ (HA2.out _) Try.underlying88 rfl (info280' _) ?_)
        | (with_reducible refine wpList_store_row rfl 88 _ _ rfl wn.heap.size (bcells Y).toArray rfl rfl 88 (bcells fun _ => 0).toArray (by rw [heap_alloc_new, bcells_zero]) (info280' _) (by simp [bcells]) (all_oneCell_toArray (bcells_one _)) ?_))
      go_ret
      exact ⟨congrArg (fun x => Ending.returned (Value.float .f64 x)) HVV.out.symm, BW2.out _⟩
  · rw [if_neg h0] at hov
    rw [if_neg h0] at hsg
    obtain ⟨r, hr⟩ : ∃ r, r = rndN 52 11 S.natAbs (-2200) := ⟨_, rfl⟩
    rw [← hr] at hov HRN
    clear hr
    by_cases h1 : S < 0
    · rw [if_pos h1] at hsg hov
      rw [hsg]
      have HVV := Lib.hid hov
      clear hsg h1 h0 hov HV
      cases all <;> (
      go_wp2_with (first
        | (with_reducible refine wpList_load_row rfl 88 _ rfl wn.heap.size rfl 88 (bcells Y).toArray (0, 0) _ (HA2.out _) Try.underlying88 rfl (info280' _) ?_)
        | (with_reducible refine wpList_store_row rfl 88 _ _ rfl wn.heap.size (bcells Y).toArray rfl rfl 88 (bcells fun _ => 0).toArray (by rw [heap_alloc_new, bcells_zero]) (info280' _) (by simp [bcells]) (all_oneCell_toArray (bcells_one _)) ?_))
      refine (HRN.out _).mono ?_
      rintro en wm ⟨rfl, hbm⟩
      have B3 := Lib.hid ((BW2.out _).trans (hbm.mono (HS2.out _)))
      clear hbm
      go_wp2_with fail
      go_ret
      exact ⟨congrArg (fun x => Ending.returned (Value.float .f64 x)) HVV.out.symm, B3.out⟩)
    · rw [if_neg h1] at hsg hov
      rw [hsg]
      have HVV := Lib.hid hov
      clear hsg h1 h0 hov HV
      cases all <;> (
      go_wp2_with (first
        | (with_reducible refine wpList_load_row rfl 88 _ rfl wn.heap.size rfl 88 (bcells Y).toArray (0, 0) _ (HA2.out _) Try.underlying88 rfl (info280' _) ?_)
        | (with_reducible refine wpList_store_row rfl 88 _ _ rfl wn.heap.size (bcells Y).toArray rfl rfl 88 (bcells fun _ => 0).toArray (by rw [heap_alloc_new, bcells_zero]) (info280' _) (by simp [bcells]) (all_oneCell_toArray (bcells_one _)) ?_))
      refine (HRN.out _).mono ?_
      rintro en wm ⟨rfl, hbm⟩
      have B3 := Lib.hid ((BW2.out _).trans (hbm.mono (HS2.out _)))
      clear hbm
      go_wp2_with fail
      go_ret
      exact ⟨congrArg (fun x => Ending.returned (Value.float .f64 x)) HVV.out.symm, B3.out⟩)
end Go.Proofs.Ytjakjnmfndfehaa
