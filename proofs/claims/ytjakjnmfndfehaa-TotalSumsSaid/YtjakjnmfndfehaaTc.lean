/- Numbers of 72 words in memory: a bit, whether one is set, how many bits: the program's walks. Conditions: the words are there. -/
import Derived.Test.YtjakjnmfndfehaaTb
import Derived.Test.YtjakjnmfndfehaaLn
namespace Go.Pst
open Go
theorem bit_len (x : Nat) (h : x < 2 ^ 64) : Lib.bitLen x = lenN x := by
  unfold lenN
  by_cases h0 : x = 0
  · rw [if_pos h0, h0]; rfl
  · rw [if_neg h0]
    have h1 := Nat.log2_self_le h0
    rw [Lib.bitLen_shift _ _ h1 h]
    have h2 := Nat.lt_log2_self (n := x)
    rw [Nat.pow_succ, Nat.mul_comm] at h2
    have : x / 2 ^ x.log2 = 1 := Nat.div_eq_of_lt_le (by omega) (by omega)
    rw [this, Nat.add_comm]
    have : Lib.bitLen 1 = 1 := by decide
    omega
theorem bitW_lt (V : Nat → Nat) (n : Nat) : bitW V n < 2 := Nat.mod_lt _ (by omega)
end Go.Pst
namespace Go.Proofs.Ytjakjnmfndfehaa
open Go.RowKit Go.Pst
set_option maxRecDepth 20000
set_option linter.unusedSimpArgs false
set_option linter.unusedVariables false

set_option maxHeartbeats 1000000 in
theorem bit_any (B o : Nat) (V : Nat → Nat) (n : Nat) (w : World) (h : WideAt w B o V) (hb : wordB V) (hn : n < 4608) :
    Calls Try.prog 124 #[.pointer (some ⟨B, o, none⟩), .int .i64 n] w fun en w' => en = .returned (.int .u64 (bitW V n)) ∧ w = w' := by
  have c := h.cell (n / 64) (by omega)
  have hw := hb (n / 64) (by omega)
  have h0 : (0 : Int) ≤ (n : Int) := by omega
  have h1 : (n : Int) / 64 < 72 := by omega
  have HR : Hid (bits BinOp.and IntKind.u64 ((V (n / 64) : Int) / 2 ^ (n % 64)) 1 = ((bitW V n : Nat) : Int)) := Lib.hid (by
    have hlt : V (n / 64) / 2 ^ (n % 64) < 2 ^ 64 := Nat.lt_of_le_of_lt (Nat.div_le_self _ _) (by unfold W64 at hw; omega)
    have e := and_mask (b := V (n / 64) / 2 ^ (n % 64)) (n := 1) hlt (by omega)
    rw [show ((V (n / 64) : Int) / 2 ^ (n % 64)) = ((V (n / 64) / 2 ^ (n % 64) : Nat) : Int) by rw [Int.natCast_ediv, Int.natCast_pow]; rfl]
    exact e)
  go_enter Try.func124, Try.ntmps124
  go_wp2_with fail
  go_ret
  exact ⟨by rw [HR.out]; rfl, rfl⟩

set_option maxHeartbeats 1000000 in
theorem some_any (B o : Nat) (V : Nat → Nat) (n : Nat) (w : World) (h : WideAt w B o V) (hb : wordB V) (hn : n ≤ 4608) :
    Calls Try.prog 125 #[.pointer (some ⟨B, o, none⟩), .int .i64 n] w fun en w' => en = .returned (.bool (decide (wv V 72 % 2 ^ n ≠ 0))) ∧ w = w' := by
  have HB := Lib.hid fun k hk => bit_any B o V k w h hb hk
  have HE := Lib.hid fun k hk => bitW_eq hb (n := k) hk
  have HS := Lib.hid (some_iff (wv V 72) n)
  obtain ⟨r, hr⟩ : ∃ r : Bool, r = decide (wv V 72 % 2 ^ n ≠ 0) := ⟨_, rfl⟩
  rw [← hr]
  have HR := Lib.hid hr
  clear h hb hr
  go_enter Try.func125, Try.ntmps125
  go_wp2_with fail
  go_loop [7] (fun t => ∃ k : Nat, t = .int .i64 k ∧ k ≤ n ∧ ∀ i, i < k → bitW V i ≠ 1) (fun t => n - (intOf t).toNat)
  case atStart => exact ⟨0, rfl, by omega, fun i hi => by omega⟩
  case round =>
    obtain ⟨k, rfl, hk, hall⟩ := hrel
    have HA := Lib.hid hall
    clear hall
    by_cases hk2 : k < n
    · have h3 : (k : Int) < (n : Int) := by omega
      by_cases h0 : bitW V k = 1
      · have hr : r = true := by
          rw [HR.out]
          refine decide_eq_true (HS.out.1 ⟨k, hk2, ?_⟩)
          rw [← HE.out k (by omega)]; exact h0
        subst hr
        have HBk := Lib.hid (HB.out k (by omega))
        rw [h0] at HBk
        clear h0
        go_wp2_with fail
        refine (HBk.out).mono ?_
        rintro en w' ⟨rfl, rfl⟩
        go_wp2_with fail
        go_ret
        exact ⟨rfl, rfl⟩
      · have HN : Hid (∀ i, i < k + 1 → bitW V i ≠ 1) := Lib.hid (fun i hi => by
          by_cases e : i = k
          · rw [e]; exact h0
          · exact HA.out i (by omega))
        have h4 : bitW V k = 0 := by have := bitW_lt V k; omega
        have HBk := Lib.hid (HB.out k (by omega))
        rw [h4] at HBk
        clear h0 h4
        go_wp2_with fail
        refine (HBk.out).mono ?_
        rintro en w' ⟨rfl, rfl⟩
        go_wp2_with fail
        go_round
        case rel => exact ⟨k + 1, by go_num, by omega, HN.out⟩
        case measure => (simp [intOf] <;> omega)
    · obtain rfl : k = n := by omega
      have hr : r = false := by
        rw [HR.out]
        refine decide_eq_false (fun hne => ?_)
        obtain ⟨i, hi, h1⟩ := HS.out.2 hne
        exact HA.out i hi (by rw [HE.out i (by omega)]; exact h1)
      subst hr
      go_wp2_with fail
      go_ret
      exact ⟨rfl, rfl⟩

set_option maxHeartbeats 1000000 in
theorem long_any (B o : Nat) (V : Nat → Nat) (w : World) (h : WideAt w B o V) (hb : wordB V) :
    Calls Try.prog 123 #[.pointer (some ⟨B, o, none⟩)] w fun en w' => en = .returned (.int .i64 (lenN (wv V 72) : Nat)) ∧ w = w' := by
  have HC := Lib.hid h.cell
  have HT := Lib.hid fun k hk h0 h1 => len_top hb (k := k) hk h0 h1
  have HB := Lib.hid hb
  have HL : Hid (∀ k, k < 72 → ∀ w, Calls Try.prog 134 #[.int .u64 (V k)] w fun en w' => en = .returned (.int .i64 (lenN (V k) : Nat)) ∧ w = w') := Lib.hid (fun k hk w => by
    have h1 := hb k hk
    unfold W64 at h1
    exact (len64_int (V k) w (by omega) (by omega)).mono fun en w' ⟨e1, e2⟩ => ⟨by rw [e1, Int.toNat_natCast, bit_len _ (by omega)], e2.symm⟩)
  have HZ := Lib.hid (fun h => wv_zero (V := V) 72 h)
  obtain ⟨r, hr⟩ : ∃ r : Nat, r = lenN (wv V 72) := ⟨_, rfl⟩
  rw [← hr]
  have HR := Lib.hid hr
  clear h hb hr
  go_enter Try.func123, Try.ntmps123
  go_wp2_with fail
  go_loop [3] (fun t => ∃ k : Nat, t = .int .i64 ((k : Int) - 1) ∧ k ≤ 72 ∧ ∀ i, k ≤ i → i < 72 → V i = 0) (fun t => (intOf t + 1).toNat)
  case atStart => exact ⟨72, rfl, by omega, fun i hi => by omega⟩
  case round =>
    obtain ⟨k, rfl, hk, hall⟩ := hrel
    have HA := Lib.hid hall
    clear hall
    rcases k with _ | k
    · have hr : r = 0 := by
        rw [HR.out, HZ.out (fun i hi => HA.out i (by omega) hi)]; rfl
      subst hr
      have e : ((0 : Nat) : Int) - 1 = -1 := rfl
      rw [e]
      clear e
      go_wp2_with fail
      go_ret
      exact ⟨rfl, rfl⟩
    · have e : ((k + 1 : Nat) : Int) - 1 = (k : Int) := by omega
      rw [e]
      have h3 : (0 : Int) ≤ (k : Int) := by omega
      have h4 : (k : Int) < 72 := by omega
      have c := HC.out k (by omega)
      clear e
      by_cases h0 : V k = 0
      · have HN : Hid (∀ i, k ≤ i → i < 72 → V i = 0) := Lib.hid (fun i h1 h2 => by
          by_cases e : i = k
          · rw [e]; exact h0
          · exact HA.out i (by omega) h2)
        rw [h0] at c
        clear h0
        go_wp2_with fail
        go_round
        case rel => exact ⟨k, by go_num, by omega, HN.out⟩
        case measure => (simp [intOf] <;> omega)
      · have HLk := Lib.hid (HL.out k (by omega))
        have hr : r = k * 64 + lenN (V k) := by rw [HR.out]; exact HT.out k (by omega) h0 (fun i h1 h2 => HA.out i (by omega) h2)
        have hl : lenN (V k) ≤ 64 := by
          have h1 := HB.out k (by omega)
          unfold W64 at h1
          have h2 := Nat.log2_lt (n := V k) (k := 64) h0
          unfold lenN; rw [if_neg h0]
          have := h2.2 (by omega)
          omega
        obtain ⟨x, hx⟩ : ∃ x, x = V k := ⟨_, rfl⟩
        rw [← hx] at c h0 hr hl HLk
        obtain ⟨y, hy⟩ : ∃ y, y = lenN x := ⟨_, rfl⟩
        rw [← hy] at hr hl HLk
        have h5 : ((x : Int) != 0) = true := by simpa using h0
        have HR2 := Lib.hid hr
        clear hx h0 hr hy
        go_wp2_with fail
        refine (HLk.out _).mono ?_
        rintro en w' ⟨rfl, rfl⟩
        go_wp2_with fail
        go_ret
        exact ⟨by rw [HR2.out]; first | rfl | (congr 2; omega) | skip, rfl⟩
end Go.Proofs.Ytjakjnmfndfehaa
