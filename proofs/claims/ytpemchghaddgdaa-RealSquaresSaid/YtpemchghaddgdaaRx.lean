/- Trunc, Modf, Power, here and in the document, walked. Condition: the bits fit. -/
import Derived.Test.YtpemchghaddgdaaRw
namespace Go.Proofs.Ytpemchghaddgdaa
open Go.RowKit Go.Pst
set_option maxRecDepth 100000
set_option linter.unusedSimpArgs false
set_option linter.unusedVariables false
attribute [local go_sem] m64bits m64from xtrunc run_fsub

def TruncPost (b : Nat) (w : World) (en : Ending) (w' : World) : Prop := ∃ x, en = .returned (.float .f64 x) ∧ (nan64 b = false → x = trB b) ∧ (nan64 b = true → nan64 x = true) ∧ Below w.heap.size w w'

theorem mtrunc_any (b : Nat) (w : World) (hb : b < 2 ^ 64) : Calls Try.prog 86 #[.float .f64 b] w (TruncPost b w) := by
  have h : ∀ w, (nan64 b = false → intU .zero w b = trB b) ∧ (nan64 b = true → nan64 (intU .zero w b) = true) := fun w =>
    ⟨fun hn => by rw [intU_fin .zero w b hn]; exact trunc64 b hb hn, fun hn => intU_nan _ _ _ hb hn⟩
  have HH := Lib.hid h; clear h
  go_enter Try.func86, Try.ntmps86
  go_wp2_with fail
  go_ret
  exact ⟨_, rfl, (HH.out _).1, (HH.out _).2, wIf_refl _ _⟩

/-- Two floats up to which no number they are. -/
def TwoLike (u v : Nat) (w : World) (en : Ending) (w' : World) : Prop := ∃ x y, en = .returned (.tuple #[.float .f64 x, .float .f64 y]) ∧ cn x = cn u ∧ cn y = cn v ∧ Below w.heap.size w w'

theorem trB_lt64 (b : Nat) (hb : b < 2 ^ 64) : trB b < 2 ^ 64 := trB_lt b hb
theorem cut_lt64 (q : Nat) (x y : Nat) : (Question.nanBits .f64 x y).cut q < 2 ^ 64 := by
  unfold Question.cut
  simp only
  have h1 : q % 2 = 0 ∨ q % 2 = 1 := by omega
  have h2 : q / 2 % (2 ^ 52 - 1) < 2 ^ 52 - 1 := Nat.mod_lt _ (by decide)
  generalize q / 2 % (2 ^ 52 - 1) = z at *
  omega
theorem arU_lt (op : BinOp) (w : World) (x y : Nat) : arU op w x y < 2 ^ 64 := by
  unfold arU
  cases h : arD op x y with
  | some r => exact (arD_some h).2
  | none => exact cut_lt64 _ _ _

set_option maxHeartbeats 1000000 in
theorem modf_any (b : Nat) (w : World) (hb : b < 2 ^ 64) : Calls Try.prog 48 #[.float .f64 b] w (TwoLike (trB b) (trR b) w) := by
  have HI := Lib.hid fun w => minf_any b w hb
  have HT := Lib.hid fun w => mtrunc_any b w hb
  cases hi : infB b
  · rw [hi] at HI
    cases hn : nan64 b
    · obtain ⟨r, hd, hr⟩ := modf_rest ⟨hb, hn, hi⟩
      have hu := arU_some hd
      have hz := arN_some hd
      have HC := Lib.hid fun w => mcopy_any r b w (arD_some hd).2 hb
      rw [hr] at HC
      have hw := wIf_off
      clear hd hr hb hi
      have HN := Lib.hid hn
      clear hn
      generalize trR b = v at *
      generalize hx : trB b = t at *
      have HX := Lib.hid hx
      clear hx
      go_enter Try.func48, Try.ntmps48
      go_wp2_with fail
      refine (HI.out _).mono ?_
      rintro en wn ⟨rfl, rfl⟩
      go_wp2_with fail
      refine (HT.out _).mono ?_
      rintro en wn ⟨x, rfl, h1, h2, hbn⟩
      obtain rfl : t = x := by rw [h1 HN.out, HX.out]
      have HB := Lib.hid hbn
      clear h1 h2 hbn
      go_wp2_with fail
      refine (HC.out _).mono ?_
      rintro en wm ⟨rfl, rfl⟩
      go_wp2_with fail
      go_ret2
      exact ⟨_, _, rfl, rfl, rfl, HB.out⟩
    · have hv1 : trB b = b := by unfold trB; rw [if_pos (by rw [hn]; simp)]
      have hv2 : trR b = b := by unfold trR; rw [if_pos hn]
      rw [hv1, hv2]
      have hcb := cn_of_nan b hn
      have hb2 := hb
      have HN := Lib.hid hn
      have HC : Hid (cn b = NC) := Lib.hid hcb
      clear hv1 hv2 hn hcb hi
      have HB2 := Lib.hid hb2
      clear hb hb2
      go_enter Try.func48, Try.ntmps48
      go_wp2_with fail
      refine (HI.out _).mono ?_
      rintro en wn ⟨rfl, rfl⟩
      go_wp2_with fail
      refine (HT.out _).mono ?_
      rintro en wn ⟨x, rfl, h1, h2, hbn⟩
      have hx := h2 HN.out
      have hz := arD_nan .sub b x (.inl HN.out)
      have HB := Lib.hid (hbn.trans ((wIf_refl (arD .sub b x).isNone wn).mono hbn.size))
      have HXN := Lib.hid hx
      have HYN : Hid (∀ w, nan64 (arU .sub w b x) = true) := Lib.hid (arU_none hz)
      clear h1 h2 hbn hx hz
      go_wp2_with fail
      refine (mcopy_any _ b _ (arU_lt _ _ _ _) HB2.out).mono ?_
      rintro en wm ⟨rfl, rfl⟩
      go_wp2_with fail
      go_ret2
      exact ⟨_, _, rfl, by rw [cn_of_nan _ HXN.out, HC.out], by rw [HC.out]; exact cn_of_nan _ (by rw [csN_nan]; exact HYN.out _), HB.out⟩
  · rw [hi] at HI
    have hn : nan64 b = false := by unfold infB at hi; unfold nan64; simp only [decide_eq_true_eq] at hi; rw [hi]; rfl
    have hv1 : trB b = b := by unfold trB; rw [if_pos (by rw [hi]; simp)]
    have hv2 : trR b = csN 0 b := by unfold trR csN; rw [if_neg (by rw [hn]; simp), if_pos (by rw [hi]; simp)]
    rw [hv1, hv2]
    have HC := Lib.hid fun w => mcopy_any 0 b w (by omega) hb
    clear hi hn hv1 hv2 hb HT
    generalize csN 0 b = z at *
    go_enter Try.func48, Try.ntmps48
    go_wp2_with fail
    refine (HI.out _).mono ?_
    rintro en wn ⟨rfl, rfl⟩
    go_wp2_with fail
    refine (HC.out _).mono ?_
    rintro en wm ⟨rfl, rfl⟩
    go_wp2_with fail
    go_ret2
    exact ⟨_, _, rfl, rfl, rfl, Below.refl _ _⟩


set_option maxHeartbeats 1000000 in
theorem rtrunc_any (b : Nat) (w : World) (hb : b < 2 ^ 64) : Calls Try.prog 70 #[.int .u64 b] w (TRPost (trB b) (trR b) w) := by
  have hz : ∀ w, Calls Try.prog 21 #[] w fun en w' => en = .returned (.agg #[.int .i64 52, .int .i64 2047, .int .i64 1023]) ∧ Below w.heap.size w w' := fun w => size64_any w
  have hp := fun w => refparts64 b w hb
  obtain ⟨m, hm, hm1, k4, k3, k5, k6, -⟩ := parts_say b hb
  have htop := top_bits b hb
  have HZ := Lib.hid hz
  cases hn : nan64 b
  · rw [hn] at k4
    cases hi : infB b
    · rw [hi] at k3
      obtain ⟨q1, q2, q3, q4, q5, q6⟩ := parts_fin b hb hn hi
      have hf : finB b := ⟨hb, hn, hi⟩
      by_cases h0 : mantB b = 0
      · obtain ⟨v1, v2⟩ := trR_zero h0 hn hi hb
        rw [v1, v2]
        rw [if_pos (q5.1 h0)] at q4
        have k0 : ((partsN 52 11 b).kind == 0) = true := by rw [q4]; rfl
        clear q1 q2 q3 q4 q5 q6 v1 v2 h0 k6 k5 hm1 hf hn hi
        generalize wrd (negB b) 0 = top at *
        generalize partsN 52 11 b = p at *
        obtain ⟨pk, pn, pm, px, pq, pl⟩ := p
        simp only [FP.val] at hp hm k0 k3 k4
        have HP := Lib.hid hp
        clear hp hb hm hz
        go_enter Try.func70, Try.ntmps70
        go_wp2_with fail
        have O := Reg.Own.nil w
        have zz := O.rules
        have HO := Lib.hid O; clear O
        go_wp2_with fail
        refine (HZ.out _).mono ?_
        rintro en wn ⟨rfl, hbn⟩
        have O := HO.out.keep hbn
        clear HO zz
        have zz := O.rules
        have HO := Lib.hid O; clear O
        clear hbn
        go_wp2_with fail
        refine (HP.out _).mono ?_
        rintro en wn ⟨rfl, hbn⟩
        have O := HO.out.keep hbn
        clear HO zz
        have zz := O.rules
        have HO := Lib.hid O; clear O
        clear hbn
        go_wp2_with fail
        go_ret2
        exact ⟨by first | rfl | simp, HO.out.below.alloc HO.out.size _⟩
      · have hkz : (partsN 52 11 b).kind ≠ 0 := by
          rw [q4, if_neg (fun h => h0 (q5.2 h))]; split <;> omega
        have k0 : ((partsN 52 11 b).kind == 0) = false := by simp [hkz]
        have hx := q3 hkz
        by_cases hpl : 1074 ≤ placeB b
        · have v1 : trB b = b := by unfold trB; rw [if_pos (by rw [decide_eq_true hpl]; simp)]
          have v2 : trR b = wrd (negB b) 0 := by unfold trR; rw [if_neg (by rw [hn]; simp), if_pos (by rw [decide_eq_true hpl]; simp)]
          rw [v1, v2]
          have hx0 : 0 ≤ (partsN 52 11 b).exp := by omega
          clear q1 q2 q3 q4 q5 q6 v1 v2 h0 k6 k5 hm1 hf hn hi hx hkz hpl
          generalize wrd (negB b) 0 = top at *
          generalize partsN 52 11 b = p at *
          obtain ⟨pk, pn, pm, px, pq, pl⟩ := p
          simp only [FP.val] at hp hm k0 k3 k4 hx0
          have HP := Lib.hid hp
          clear hp hb hm hz
          go_enter Try.func70, Try.ntmps70
          go_wp2_with fail
          have O := Reg.Own.nil w
          have zz := O.rules
          have HO := Lib.hid O; clear O
          go_wp2_with fail
          refine (HZ.out _).mono ?_
          rintro en wn ⟨rfl, hbn⟩
          have O := HO.out.keep hbn
          clear HO zz
          have zz := O.rules
          have HO := Lib.hid O; clear O
          clear hbn
          go_wp2_with fail
          refine (HP.out _).mono ?_
          rintro en wn ⟨rfl, hbn⟩
          have O := HO.out.keep hbn
          clear HO zz
          have zz := O.rules
          have HO := Lib.hid O; clear O
          clear hbn
          go_wp2_with fail
          go_ret2
          exact ⟨by first | rfl | simp, HO.out.below.alloc HO.out.size _⟩
        · have v1 : trB b = wrd (negB b) (rndN 52 11 (mantB b / 2 ^ (1074 - placeB b)) 0) := by unfold trB; rw [if_neg (by rw [hn, hi, decide_eq_false hpl]; simp)]
          have v2 : trR b = wrd (negB b) (rndN 52 11 (mantB b % 2 ^ (1074 - placeB b)) (-1074 + (placeB b : Nat))) := by unfold trR; rw [if_neg (by rw [hn]; simp), if_neg (by rw [hi, decide_eq_false hpl]; simp)]
          obtain ⟨K, hK⟩ : ∃ K, K = 1074 - placeB b := ⟨_, rfl⟩
          rw [← hK] at v1 v2
          have hmm : m = mantB b := by omega
          subst hmm
          have hxK : (partsN 52 11 b).exp = -(K : Int) := by omega
          have hml := mant_lt b
          have r1 := fun w => refround_any 52 11 2047 1023 (mantB b / 2 ^ K) 0 (partsN 52 11 b).neg false w (by omega) (by omega) (by omega) rfl rfl (Nat.lt_of_le_of_lt (Nat.div_le_self _ _) (by omega)) (fun h => by cases h) (by omega) (by omega)
          have r2 := fun w => refround_any 52 11 2047 1023 (mantB b % 2 ^ K) (partsN 52 11 b).exp (partsN 52 11 b).neg false w (by omega) (by omega) (by omega) rfl rfl (Nat.lt_of_le_of_lt (Nat.mod_le _ _) (by omega)) (fun h => by cases h) (by omega) (by omega)
          have f4 : ∀ N (E : Int), rndN 52 11 (4 * N + false.toNat) (E - 2) = rndN 52 11 N E := fun N E => by
            rw [show 4 * N + false.toNat = 4 * N from rfl, rnd_four]
          simp only [f4, wrd_signed _ _ (rnd_lt63 _ _)] at r1 r2
          rw [hx, k5] at r2
          rw [k5] at r1
          rw [← v2] at r2
          rw [← v1] at r1
          clear v1 v2 f4
          obtain ⟨pk, hpk⟩ : ∃ pk : Nat, (partsN 52 11 b).kind = pk := by rw [q4]; (repeat' split) <;> exact ⟨_, rfl⟩
          obtain ⟨pl, hpl⟩ : ∃ pl : Nat, (partsN 52 11 b).load = pl := by
            rw [parts64_num b hb]
            (repeat' split) <;> first | exact ⟨_, rfl⟩ | exact ⟨0, rfl⟩
          exact rtrunc_num b (mantB b) pk pl (wrd (negB b) 0) (trB b) (trR b) K (partsN 52 11 b).exp (negB b) (partsN 52 11 b).quiet w (by rw [← hpk]; exact k0) (by rw [← hpk]; exact k3) (by rw [← hpk]; exact k4) hz
            (fun w => by
              have := hp w
              generalize partsN 52 11 b = p at *
              obtain ⟨xk, xn, xm, xx, xq, xl⟩ := p
              simp only [FP.val] at this hm hpk hpl k5 ⊢
              subst hm hpk hpl
              rw [k5] at this
              exact this) hml hxK (by omega) (by omega) htop r1 (by rw [hx]; exact r2)
    · have v1 : trB b = b := by unfold trB; rw [if_pos (by rw [hi]; simp)]
      have v2 : trR b = wrd (negB b) 0 := by unfold trR; rw [if_neg (by rw [hn]; simp), if_pos (by rw [hi]; simp)]
      rw [v1, v2]
      rw [hi] at k3
      clear v1 v2 k6 k5 hm1 hn hi
      generalize wrd (negB b) 0 = top at *
      generalize partsN 52 11 b = p at *
      obtain ⟨pk, pn, pm, px, pq, pl⟩ := p
      simp only [FP.val] at hp hm k3 k4
      have HP := Lib.hid hp
      clear hp hb hm hz
      go_enter Try.func70, Try.ntmps70
      go_wp2_with fail
      have O := Reg.Own.nil w
      have zz := O.rules
      have HO := Lib.hid O; clear O
      go_wp2_with fail
      refine (HZ.out _).mono ?_
      rintro en wn ⟨rfl, hbn⟩
      have O := HO.out.keep hbn
      clear HO zz
      have zz := O.rules
      have HO := Lib.hid O; clear O
      clear hbn
      go_wp2_with fail
      refine (HP.out _).mono ?_
      rintro en wn ⟨rfl, hbn⟩
      have O := HO.out.keep hbn
      clear HO zz
      have zz := O.rules
      have HO := Lib.hid O; clear O
      clear hbn
      go_wp2_with fail
      go_ret2
      exact ⟨by first | rfl | simp, HO.out.below.alloc HO.out.size _⟩
  · rw [hn] at k4
    have v1 : trB b = b := by unfold trB; rw [if_pos (by rw [hn]; simp)]
    have v2 : trR b = b := by unfold trR; rw [if_pos hn]
    rw [v1, v2]
    clear v1 v2 k6 k5 hm1 hn
    generalize wrd (negB b) 0 = top at *
    generalize partsN 52 11 b = p at *
    obtain ⟨pk, pn, pm, px, pq, pl⟩ := p
    simp only [FP.val] at hp hm k3 k4
    have HP := Lib.hid hp
    clear hp hb hm hz
    go_enter Try.func70, Try.ntmps70
    go_wp2_with fail
    have O := Reg.Own.nil w
    have zz := O.rules
    have HO := Lib.hid O; clear O
    go_wp2_with fail
    refine (HZ.out _).mono ?_
    rintro en wn ⟨rfl, hbn⟩
    have O := HO.out.keep hbn
    clear HO zz
    have zz := O.rules
    have HO := Lib.hid O; clear O
    clear hbn
    go_wp2_with fail
    refine (HP.out _).mono ?_
    rintro en wn ⟨rfl, hbn⟩
    have O := HO.out.keep hbn
    clear HO zz
    have zz := O.rules
    have HO := Lib.hid O; clear O
    clear hbn
    go_wp2_with fail
    go_ret2
    exact ⟨by first | rfl | simp, HO.out.below.alloc HO.out.size _⟩
end Go.Proofs.Ytpemchghaddgdaa
