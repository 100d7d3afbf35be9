/- The document's own small functions: the same number, which row of costs may not be, what is wrong. Conditions: not too many rows, the names are not too long. -/
import Derived.Test.YtkhdemaanakbeaaLk
namespace Go.Proofs.Ytkhdemaanakbeaa
open Go.RowKit Go.Pst
set_option maxRecDepth 100000
set_option linter.unusedSimpArgs false
set_option linter.unusedVariables false
attribute [local go_sem] x64bits

theorem rkey_any (b : Nat) (w : World) (h : b < 2 ^ 64) : Calls Try.prog 54 #[.float .f64 b] w fun en w' => en = .returned (.int .i64 (ordK b)) ∧ w = w' := by
  obtain ⟨r, hr⟩ : ∃ r, r = ordK b := ⟨_, rfl⟩
  rw [← hr]
  unfold ordK at hr
  by_cases hs : b < 9223372036854775808
  · rw [if_pos hs] at hr
    have h1 : IntKind.i64.wrap (b : Int) = b := by rw [IntKind.wrap_i64]; omega
    have h2 : ¬ (b : Int) / 9223372036854775808 = 1 := by omega
    have HR := Lib.hid hr; clear hr h
    go_enter Try.func54, Try.ntmps54
    go_wp2
    go_ret
    exact ⟨ret_int (by rw [HR.out]), rfl⟩
  · rw [if_neg hs] at hr
    obtain ⟨c, hc⟩ : ∃ c : Nat, c = b - 9223372036854775808 := ⟨_, rfl⟩
    have h0 : bits .and .u64 (b : Int) 9223372036854775807 = (c : Int) := by
      rw [show (9223372036854775807 : Int) = ((2 ^ 63 - 1 : Nat) : Int) by decide, and_mask h (by omega)]; omega
    have h1 : IntKind.i64.wrap (c : Int) = c := by rw [IntKind.wrap_i64]; omega
    have h2 : (b : Int) / 9223372036854775808 = 1 := by omega
    have h3 : r = -1 - (c : Int) := by omega
    have h4 : c < 9223372036854775808 := by omega
    have HR := Lib.hid h3; clear hr h3 h hs hc
    go_enter Try.func54, Try.ntmps54
    go_wp2
    go_ret
    exact ⟨ret_int (by rw [HR.out]), rfl⟩

theorem ordK_inj {a b : Nat} (ha : a < 2 ^ 64) (hb : b < 2 ^ 64) : ordK a = ordK b ↔ a = b := by
  unfold ordK; (repeat' split) <;> omega

/-- Same, of floats known up to which no number they are. -/
theorem rsame_any (a b : Nat) (w : World) (ha : nan64 a = false → a < 2 ^ 64) (hb : nan64 b = false → b < 2 ^ 64) (hb' : b < 2 ^ 64 ∧ a < 2 ^ 64 ∨ (nan64 a = true ∧ nan64 b = true)) :
    Calls Try.prog 48 #[.float .f64 a, .float .f64 b] w fun en w' => en = .returned (.bool (cn a == cn b)) ∧ w = w' := by
  have e1 := fne_self a
  have e2 := fne_self b
  obtain ⟨r, hr⟩ : ∃ r, r = (cn a == cn b) := ⟨_, rfl⟩
  rw [← hr]
  have viaKey : (b < 2 ^ 64 ∧ a < 2 ^ 64) → (nan64 a && nan64 b) = false → r = (ordK a == ordK b) := fun hlt hn => by
    rw [hr, Bool.eq_iff_iff]
    simp only [beq_iff_eq]
    rw [ordK_inj hlt.2 hlt.1]
    cases hna : nan64 a
    · rw [cn_of a hna]
      constructor
      · intro h
        have : nan64 b = false := by rw [← cn_nan, ← h, hna]
        rw [cn_of b this] at h; exact h
      · intro h; rw [← h, cn_of a hna]
    · have hnb : nan64 b = false := by rw [hna] at hn; simpa using hn
      rw [cn_of b hnb]
      constructor
      · intro h
        have : nan64 (cn a) = nan64 b := by rw [h]
        rw [cn_nan, hna, hnb] at this; cases this
      · intro h; rw [h] at hna; rw [hna] at hnb; cases hnb
  cases hna : nan64 a
  · rw [hna] at viaKey e1
    have hlt : b < 2 ^ 64 ∧ a < 2 ^ 64 := by rcases hb' with h | h; · exact h
                                             · rw [hna] at h; cases h.1
    have HR := Lib.hid (viaKey hlt rfl)
    have H1 := Lib.hid fun w => rkey_any a w hlt.2
    have H2 := Lib.hid fun w => rkey_any b w hlt.1
    generalize ordK a = x at *
    generalize ordK b = y at *
    clear viaKey hr ha hb hb' hlt hna
    go_enter Try.func48, Try.ntmps48
    go_wp2_with fail
    refine (H1.out _).mono ?_
    rintro en w' ⟨rfl, rfl⟩
    go_wp2_with fail
    refine (H2.out _).mono ?_
    rintro en w' ⟨rfl, rfl⟩
    go_wp2_with fail
    go_ret
    exact ⟨by rw [HR.out]; rfl, rfl⟩
  · rw [hna] at viaKey e1
    cases hnb : nan64 b
    · rw [hnb] at viaKey e2
      have hlt : b < 2 ^ 64 ∧ a < 2 ^ 64 := by rcases hb' with h | h; · exact h
                                               · rw [hnb] at h; cases h.2
      have HR := Lib.hid (viaKey hlt rfl)
      have H1 := Lib.hid fun w => rkey_any a w hlt.2
      have H2 := Lib.hid fun w => rkey_any b w hlt.1
      generalize ordK a = x at *
      generalize ordK b = y at *
      clear viaKey hr ha hb hb' hlt hna hnb
      go_enter Try.func48, Try.ntmps48
      go_wp2_with fail
      refine (H1.out _).mono ?_
      rintro en w' ⟨rfl, rfl⟩
      go_wp2_with fail
      refine (H2.out _).mono ?_
      rintro en w' ⟨rfl, rfl⟩
      go_wp2_with fail
      go_ret
      exact ⟨by rw [HR.out]; rfl, rfl⟩
    · rw [hnb] at e2
      have hr' : r = true := by rw [hr, cn_of_nan a hna, cn_of_nan b hnb]; simp
      subst hr'
      clear viaKey hr ha hb hb' hna hnb
      go_enter Try.func48, Try.ntmps48
      go_wp2_with fail
      go_ret
      exact ⟨rfl, rfl⟩

theorem ordC_nonneg (a b a' b' : Int) : (0 ≤ ordC a b a' b') ↔ (a' < a ∨ (a = a' ∧ b' ≤ b)) := by
  have := (ordC_spec a b a' b').1
  omega


set_option maxHeartbeats 4000000 in
theorem rcheck_any (cI cO cX cT : Nat) (A : Option Addr) (n c : Nat) (p : Nat → Int × Int × Nat) (w : World) (hn : n ≤ 1048576) (hp : PairsAt w w.heap.size A n p) :
    Calls Try.prog 21 #[.agg #[.float .f64 cI, .float .f64 cO, .float .f64 cX, .float .f64 cT, .slice A n c]] w (ChkPost (chkN p n) w) := by
  by_cases hbig : 4096 < n
  · rw [chk_big hbig]
    have hbig' : (4096 : Int) < (n : Int) := by omega
    have HP := Lib.hid hp; clear hp hbig
    go_enter Try.func21, Try.ntmps21
    go_wp2
    go_ret2
    exact ⟨rfl, (Below.refl _ _).alloc (Nat.le_refl _) _⟩
  · have hbig' : ¬ (4096 : Int) < (n : Int) := by omega
    have hn2 : n ≤ 4096 := by omega
    have HP := Lib.hid hp; clear hp hbig hn
    obtain ⟨r, hr⟩ : ∃ r, r = chkN p n := ⟨_, rfl⟩
    rw [← hr]
    have HR := Lib.hid hr; clear hr
    go_enter Try.func21, Try.ntmps21
    go_wp2
    go_loopw [4] (fun t wr => ∃ k : Nat, t = .int .i64 k ∧ k ≤ n ∧ (∀ i, i < k → badB p i = false) ∧ Reg.Own w wr [(w.heap.size, #[.float .f64 cI, .float .f64 cO, .float .f64 cX, .float .f64 cT, .slice A n c], 39)]) (fun t _ => n - (intOf t).toNat)
    case atStart => exact ⟨0, rfl, by omega, fun i h => by omega, (Reg.Own.nil w).alloc rfl _ _⟩
    case round =>
      obtain ⟨k, rfl, hk, hl, HO'⟩ := hrel
      have HL := Lib.hid hl; clear hl
      have O := HO'
      obtain ⟨c0, f0, z0, y0, -, zz⟩ := O.rules
      have HO := Lib.hid O; clear O
      by_cases hkn : k < n
      · obtain ⟨g, off, rfl, hg, hcell⟩ := (HP.out.below HO.out.below (Nat.le_refl _)) (by omega)
        obtain ⟨q1, q2, q3⟩ := hcell k hkn
        have hg2 : g < wr.heap.size := by omega
        have hk1 : (k : Int) < (n : Int) := by omega
        have hsz : w.heap.size < wr.heap.size := by omega
        cases heq : ((p k).1 == (p k).2.1)
        · by_cases hk0 : k = 0
          · have hd1 : decide ((0 : Int) < (k : Int)) = false := by simp; omega
            have hd2 : decide (0 < k) = false := by simp; omega
            have hd3 : ¬ (0 : Int) < (k : Int) := by omega
            have hd4 : ¬ 0 < k := by omega
            have HB := Lib.hid (show badB p k = false by unfold badB; rw [heq, hd2]; rfl)
            have HK := Lib.hid hk0
            clear hcell hk0
            go_wp2_with fail
            go_roundw
            case rel => exact ⟨k + 1, by go_num, by omega, fun i hi => (by
              rcases Nat.lt_or_ge i k with hx | hx
              · exact HL.out i hx
              · obtain rfl : i = k := by omega
                exact HB.out), HO.out.keep ((Below.refl wr.heap.size wr).alloc (Nat.le_refl _) _)⟩
            case measure => simp [intOf]; omega
          · have hd1 : decide ((0 : Int) < (k : Int)) = true := by simp; omega
            have hd2 : decide (0 < k) = true := by simp; omega
            have hd3 : (0 : Int) < (k : Int) := by omega
            obtain ⟨k1, e1⟩ : ∃ k1 : Nat, k1 = k - 1 := ⟨_, rfl⟩
            have e1' : (k : Int) - 1 = (k1 : Int) := by omega
            have e2 : (k1 : Int) < (n : Int) := by omega
            have e3 : (0 : Int) ≤ (k1 : Int) := by omega
            obtain ⟨s1, s2, s3⟩ := hcell k1 (by omega)
            have hbq : badB p k = decide (0 ≤ ordC (p k1).1 (p k1).2.1 (p k).1 (p k).2.1) := by unfold badB; rw [heq, hd2, ← e1]; simp
            have hon := ordC_nonneg (p k1).1 (p k1).2.1 (p k).1 (p k).2.1
            have HK := Lib.hid hk0; have HE := Lib.hid e1
            clear hcell hk0 e1
            by_cases t1 : (p k).1 < (p k1).1
            · have u1 : decide ((p k).1 < (p k1).1) = true := by simpa using t1
              have HB := Lib.hid (show badB p k = true by rw [hbq]; simp only [decide_eq_true_eq]; exact hon.2 (.inl t1))
              clear hbq hon
              go_wp2_with fail
              go_ret2
              exact ⟨by rw [HR.out, chk_bad hn2 hkn HB.out HL.out]; rfl, (HO.out.keep (((Below.refl wr.heap.size wr).alloc (Nat.le_refl _) _).alloc (by simp) _)).below⟩
            · have u1 : decide ((p k).1 < (p k1).1) = false := by simpa using t1
              cases t2 : ((p k1).1 == (p k).1)
              · have HB := Lib.hid (show badB p k = false by
                  rw [hbq]; simp only [decide_eq_false_iff_not]; intro h; have := hon.1 h; simp at t2; omega)
                clear hbq hon
                go_wp2_with fail
                go_roundw
                case rel => exact ⟨k + 1, by go_num, by omega, fun i hi => (by
                  rcases Nat.lt_or_ge i k with hx | hx
                  · exact HL.out i hx
                  · obtain rfl : i = k := by omega
                    exact HB.out), HO.out.keep (((Below.refl wr.heap.size wr).alloc (Nat.le_refl _) _).alloc (by simp) _)⟩
                case measure => simp [intOf]; omega
              · by_cases t3 : (p k).2.1 ≤ (p k1).2.1
                · have u3 : decide ((p k).2.1 ≤ (p k1).2.1) = true := by simpa using t3
                  have HB := Lib.hid (show badB p k = true by rw [hbq]; simp only [decide_eq_true_eq]; exact hon.2 (.inr ⟨by simpa using t2, t3⟩))
                  clear hbq hon
                  go_wp2_with fail
                  go_ret2
                  exact ⟨by rw [HR.out, chk_bad hn2 hkn HB.out HL.out]; rfl, (HO.out.keep (((Below.refl wr.heap.size wr).alloc (Nat.le_refl _) _).alloc (by simp) _)).below⟩
                · have u3 : decide ((p k).2.1 ≤ (p k1).2.1) = false := by simpa using t3
                  have HB := Lib.hid (show badB p k = false by
                    rw [hbq]; simp only [decide_eq_false_iff_not]; intro h; have := hon.1 h; omega)
                  clear hbq hon
                  go_wp2_with fail
                  go_roundw
                  case rel => exact ⟨k + 1, by go_num, by omega, fun i hi => (by
                    rcases Nat.lt_or_ge i k with hx | hx
                    · exact HL.out i hx
                    · obtain rfl : i = k := by omega
                      exact HB.out), HO.out.keep (((Below.refl wr.heap.size wr).alloc (Nat.le_refl _) _).alloc (by simp) _)⟩
                  case measure => simp [intOf]; omega
        · have HB := Lib.hid (show badB p k = true by unfold badB; rw [heq]; rfl)
          clear hcell
          go_wp2_with fail
          go_ret2
          exact ⟨by rw [HR.out, chk_bad hn2 hkn HB.out HL.out]; rfl, (HO.out.keep ((Below.refl wr.heap.size wr).alloc (Nat.le_refl _) _)).below⟩
      · obtain rfl : k = n := by omega
        have hkn' : ¬ (k : Int) < (k : Int) := by omega
        go_wp2_with fail
        go_ret2
        exact ⟨by rw [HR.out, chk_ok hn2 HL.out]; rfl, HO.out.below⟩

set_option maxHeartbeats 1000000 in
theorem wrong_any (cI cO cX cT n m c d np cp : Nat) (A B Ap : Option Addr) (p : Nat → Int × Int × Nat) (w : World)
    (hn : n ≤ 1048576) (hm : m ≤ 1048576) (hnp : np ≤ 1048576) (hp : PairsAt w w.heap.size Ap np p) :
    Calls Try.prog 17 #[.agg #[.float .f64 cI, .float .f64 cO, .float .f64 cX, .float .f64 cT, .slice Ap np cp], .slice A n c, .slice B m d] w
      fun en w' => en = .returned (.int .i64 (errN p np n m)) ∧ Below w.heap.size w w' := by
  have hc := fun w hp => rcheck_any cI cO cX cT Ap np cp p w hnp hp
  have hw1 := fun w => wide_any n m c d A B w hn hm
  obtain ⟨e, he⟩ : ∃ e, e = errN p np n m := ⟨_, rfl⟩
  rw [← he]
  unfold errN at he
  have hor := chk_or p np
  generalize chkN p np = r at *
  obtain ⟨r1, r2⟩ := r
  simp only at he hor
  have HC := Lib.hid hc; have HP := Lib.hid hp; have HE := Lib.hid he
  clear hc hp he
  by_cases h0 : r2 = 0
  · subst h0
    cases hw : wideB n m <;>
    · rw [hw] at hw1
      have HW1 := Lib.hid hw1; have HW := Lib.hid hw
      clear hw1 hw hor
      go_enter Try.func17, Try.ntmps17
      go_wp2_with fail
      have O := (Reg.Own.nil w).alloc rfl #[.float .f64 cI, .float .f64 cO, .float .f64 cX, .float .f64 cT, .slice Ap np cp] 39
      obtain ⟨c0, f0, z0, y0, -, zz⟩ := O.rules
      have HO := Lib.hid O; clear O
      refine (HC.out _ ((HP.out.below HO.out.below (Nat.le_refl _)).more HO.out.size)).mono ?_
      rintro en wn ⟨rfl, hbn⟩
      have O := HO.out.keep hbn
      clear HO c0 f0 z0 y0 zz
      obtain ⟨c0, f0, z0, y0, -, zz⟩ := O.rules
      have HO := Lib.hid O; clear O
      clear hbn
      go_wp2_with fail
      refine (HW1.out _).mono ?_
      rintro en wn ⟨rfl, rfl⟩
      go_wp2_with fail
      go_ret
      exact ⟨ret_int (by rw [HE.out, HW.out]; simp), HO.out.below⟩
  · obtain rfl : r2 = 270 := by omega
    clear hor hw1
    go_enter Try.func17, Try.ntmps17
    go_wp2_with fail
    have O := (Reg.Own.nil w).alloc rfl #[.float .f64 cI, .float .f64 cO, .float .f64 cX, .float .f64 cT, .slice Ap np cp] 39
    obtain ⟨c0, f0, z0, y0, -, zz⟩ := O.rules
    have HO := Lib.hid O; clear O
    refine (HC.out _ ((HP.out.below HO.out.below (Nat.le_refl _)).more HO.out.size)).mono ?_
    rintro en wn ⟨rfl, hbn⟩
    have O := HO.out.keep hbn
    clear HO c0 f0 z0 y0 zz
    obtain ⟨c0, f0, z0, y0, -, zz⟩ := O.rules
    have HO := Lib.hid O; clear O
    clear hbn
    go_wp2_with fail
    go_ret
    exact ⟨ret_int (by rw [HE.out]; simp), HO.out.below⟩

theorem lsame_any (a b : Nat) (w : World) (ha : nan64 a = false → a < 2 ^ 64) (hb : nan64 b = false → b < 2 ^ 64) (hb' : b < 2 ^ 64 ∧ a < 2 ^ 64 ∨ (nan64 a = true ∧ nan64 b = true)) :
    Calls Try.prog 19 #[.float .f64 a, .float .f64 b] w fun en w' => en = .returned (.bool (cn a == cn b)) ∧ w = w' := by
  have H := Lib.hid fun w => rsame_any a b w ha hb hb'
  generalize (cn a == cn b) = r at *
  clear ha hb hb'
  go_enter Try.func19, Try.ntmps19
  go_wp2_with fail
  refine (H.out _).mono ?_
  rintro en w' ⟨rfl, rfl⟩
  go_wp2_with fail
  go_ret
  exact ⟨rfl, rfl⟩

end Go.Proofs.Ytkhdemaanakbeaa
