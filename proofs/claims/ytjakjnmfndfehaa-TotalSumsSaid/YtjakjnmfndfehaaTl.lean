/- A number of 72 words over a power of two as a float: the program's walk. Conditions: from 1074 to 2148 places behind the point. -/
import Derived.Test.YtjakjnmfndfehaaTk
namespace Go.Proofs.Ytjakjnmfndfehaa
open Go.RowKit Go.Pst
set_option maxRecDepth 20000
set_option linter.unusedSimpArgs false
set_option linter.unusedVariables false

/-- The other sign. -/
def flipF (b : Nat) : Nat := b ^^^ 9223372036854775808
theorem flipF_low {b : Nat} (h : b < 9223372036854775808) : flipF b = wrd true b := by
  unfold flipF wrd
  have h2 := Nat.two_pow_add_eq_or_of_lt (i := 63) (b := b) (by omega) 1
  have h3 : b ^^^ 9223372036854775808 = 9223372036854775808 ||| b := by
    apply Nat.eq_of_testBit_eq
    intro i
    rw [Nat.testBit_xor, Nat.testBit_or, show (9223372036854775808 : Nat) = 2 ^ 63 from rfl, Nat.testBit_two_pow]
    by_cases hi : 63 = i
    · subst hi
      rw [Nat.testBit_lt_two_pow (show b < 2 ^ 63 by omega)]; simp
    · simp [hi]
  rw [h3, if_pos rfl]
  rw [show (2 : Nat) ^ 63 * 1 = 9223372036854775808 from rfl] at h2
  exact h2.symm
theorem run_fneg (P : Program) (b : Nat) (w : World) : Sem.run P (Op.unary .neg (.float .f64 b)) w = .ok (.float .f64 (flipF b)) w := rfl
attribute [local go_sem] run_fneg

theorem or_bit {n b : Nat} (hn : n < 2 ^ 62) (hb : b < 2) : bits .or .u64 ((n : Int) * 2) (b : Int) = ((2 * n + b : Nat) : Int) := by
  have h := or64 (a := n * 2) (b := b) (by omega) (by omega)
  rw [show ((n : Int) * 2) = ((n * 2 : Nat) : Int) by omega, h]
  have h2 := Nat.two_pow_add_eq_or_of_lt (i := 1) (b := b) (by omega) n
  rw [Nat.pow_one, Nat.mul_comm 2 n] at h2
  rw [← h2, Nat.mul_comm]



set_option maxHeartbeats 8000000 in
theorem float_any (V : Nat → Nat) (s d : Int) (w : World) (hV : WIs V s) (hs : s.natAbs < 2 ^ K46) (hd : 1074 ≤ d ∧ d ≤ 2148) :
    Calls Try.prog 111 #[.agg (wcells V).toArray, .int .i64 d] w fun en w' => en = .returned (.float .f64 (fvN s d)) ∧ Below w.heap.size w w' := by
  have hs' : s.natAbs < H71 := by rw [h71_two]; exact hs
  have hsm : Small s := ⟨by omega, by omega⟩
  have HS := Lib.hid fun (w : World) h => sign_any w.heap.size 0 V s (w.alloc (.cells (wcells V).toArray 82)) h hV hsm
  have W1 := Lib.hid (wide_new w V rfl)
  have z : w.heap.size < (w.alloc (.cells (wcells V).toArray 82)).heap.size := by simp
  have B1 := Lib.hid ((Below.refl w.heap.size w).alloc (Nat.le_refl _) (.cells (wcells V).toArray 82))
  have HV := Lib.hid hV
  obtain ⟨hrd, -, hdq⟩ := drop_rnd s.natAbs d
  have hrle : rne s.natAbs (dropN s.natAbs d) ≤ 2 ^ 53 := by
    by_cases h0 : s.natAbs = 0
    · rw [h0]; unfold rne; simp
    · exact (drop_rnd s.natAbs d).2.1 h0
  have hN46 := hs
  have hab : s.natAbs = (s.natAbs : Nat) := rfl
  clear hV hs
  by_cases hneg : s < 0
  · have hwv : wv (negW V) 72 = s.natAbs := by
      rw [HV.out.neg.nat ⟨by omega, by omega⟩ (by omega)]; omega
    obtain ⟨r, hr⟩ : ∃ r, r = rndN 52 11 s.natAbs (-d) := ⟨_, rfl⟩
    have hrr : ldB (fl (rne s.natAbs (dropN s.natAbs d))) ((dropN s.natAbs d : Nat) - d) = r := by
      rw [ldB_fl hrle, ← hrd, hr]
    have hr2 : fvN s d = flipF r := by
      have := rnd_lt s.natAbs (-d)
      rw [flipF_low (by omega), hr]; unfold fvN; rw [decide_eq_true hneg]
    rw [hr2]
    have hsg : sgnI s = -1 := by unfold sgnI; rw [if_pos hneg]
    rw [hsg] at HS
    have NA := Lib.hid (negate_any w.heap.size 0 V _ W1.out HV.out.1)
    have HWB : Hid (wordB (negW V)) := Lib.hid HV.out.neg.1
    obtain ⟨N, hN⟩ : ∃ N, N = s.natAbs := ⟨_, rfl⟩
    rw [← hN] at hwv hrr hrd hdq hN46 hrle
    clear hN hs' hab hr hneg hsm hr2 hsg
    go_enter Try.func111, Try.ntmps111
    go_wp2_with fail
    refine (HS.out w W1.out).mono ?_
    rintro en w' ⟨rfl, rfl⟩
    go_wp2_with fail
    refine NA.out.mono ?_
    rintro en w2 ⟨⟨v2, rfl⟩, W5, C5⟩
    have WX := Lib.hid W5
    have BX := Lib.hid (Fr.below B1.out ((Fr.refl _ w.heap.size).chgB C5) (Nat.le_refl _) (Nat.le_of_lt z))
    clear W5 C5 NA
    have HB := Lib.hid fun j hj => bit_any w.heap.size 0 (negW V) j _ WX.out HWB.out hj
    have HSO := Lib.hid fun j hj => some_any w.heap.size 0 (negW V) j _ WX.out HWB.out hj
    have HLG := Lib.hid (long_any w.heap.size 0 (negW V) _ WX.out HWB.out)
    have HBE := Lib.hid fun j hj => bitW_eq HWB.out (n := j) hj
    rw [hwv] at HLG HBE HSO
    have HBL := Lib.hid fun j => bitW_lt (negW V) j
    obtain ⟨L, hL⟩ : ∃ L, L = lenN N := ⟨_, rfl⟩
    have hLd := len_div N
    have hL46 := lenN_lt hN46
    rw [← hL] at HLG hLd hL46
    have hD : max (max ((L : Int) - 1 - d - 52) (-1074) + d) 0 = ((dropN N d : Nat) : Int) := by unfold dropN; rw [← hL]; omega
    obtain ⟨D, gD⟩ : ∃ D, D = dropN N d := ⟨_, rfl⟩
    rw [← gD] at hD hdq hrd hrr
    have hD46 : D ≤ 4608 := by unfold K46 at hL46; omega
    have hL46' : L ≤ 4607 := hL46
    have HLd := Lib.hid hLd; have HRD := Lib.hid hrd; have HRR := Lib.hid hrr
    have hN0 : N / 2 ^ D < 9007199254740992 := hdq
    clear hL hLd hL46 gD hwv hrd hrr
    go_wp2_with fail
    refine HLG.out.mono ?_
    rintro en w' ⟨rfl, rfl⟩
    go_wp2_with fail
    refine HLG.out.mono ?_
    rintro en w' ⟨rfl, rfl⟩
    have HD := Lib.hid hD
    have HN0 := Lib.hid hN0
    clear HLG
    go_wp2_with fail
    clear hD hN0
    go_loop [8, 9] (fun nv t => ∃ k : Nat, t = .int .i64 ((k : Int) - 1) ∧ k ≤ L ∧ (D ≤ k ∨ k = L) ∧ nv = .int .u64 (N / 2 ^ k : Nat)) (fun _ t => (intOf t + 1).toNat)
    case atStart => exact ⟨L, by go_num, Nat.le_refl _, .inr rfl, by rw [HLd.out]; rfl⟩
    case round =>
      obtain ⟨k, rfl, hk, hkd, rfl⟩ := hrel
      by_cases hc : D < k
      · rcases k with _ | j
        · omega
        have e : ((j + 1 : Nat) : Int) - 1 = (j : Int) := by omega
        rw [e]
        have hge : (D : Int) ≤ (j : Int) := by omega
        have hnb : N / 2 ^ (j + 1) < 2 ^ 62 := by
          have h1 := HN0.out
          have h2 : N / 2 ^ (j + 1) ≤ N / 2 ^ D := Nat.div_le_div_left (Nat.pow_le_pow_right (by omega) (by omega)) (Nat.two_pow_pos _)
          omega
        have hst := div_shift N j
        have HBj := Lib.hid (HB.out j (by omega))
        have hbl := HBL.out j
        rw [← HBE.out j (by omega)] at hst
        obtain ⟨b, hb⟩ : ∃ b, b = bitW (negW V) j := ⟨_, rfl⟩
        obtain ⟨n1, hn1⟩ : ∃ n, n = N / 2 ^ (j + 1) := ⟨_, rfl⟩
        rw [← hb] at hst hbl HBj
        rw [← hn1] at hst hnb ⊢
        have hor := or_bit hnb hbl
        have HST := Lib.hid hst
        obtain ⟨n2, hn2⟩ : ∃ n, n = 2 * n1 + b := ⟨_, rfl⟩
        rw [← hn2] at hor HST
        have h0 : (0 : Int) ≤ (j : Int) := by omega
        clear e hb hn1 hst hn2
        go_wp2_with fail
        refine HBj.out.mono ?_
        rintro en w' ⟨rfl, rfl⟩
        go_wp2_with fail
        go_round
        case rel => exact ⟨j, by go_num, by omega, .inl (by omega), by rw [HST.out]⟩
        case measure => (simp [intOf] <;> omega)
      · have hlt : (k : Int) - 1 < (D : Int) := by omega
        have hND : N / 2 ^ k = N / 2 ^ D := by
          rcases hkd with h | h
          · rw [show k = D by omega]
          · subst h
            have h1 := HLd.out
            have h2 : N / 2 ^ D ≤ N / 2 ^ k := Nat.div_le_div_left (Nat.pow_le_pow_right (by omega) (by omega)) (Nat.two_pow_pos _)
            rw [h1] at h2
            rw [h1, Nat.le_zero.1 h2]
        rw [hND]
        have hkL := hk
        have hnq := HN0.out
        have hand := and_mask (b := N / 2 ^ D) (n := 1) (by omega) (by omega)
        rw [show ((2 ^ 1 - 1 : Nat) : Int) = 1 from rfl, show (2 : Nat) ^ 1 = 2 from rfl] at hand
        rcases D with _ | E
        · have e0 : rne N 0 = N / 2 ^ 0 := by rw [rne_zero, Nat.pow_zero, Nat.div_one]
          obtain ⟨q, hq⟩ : ∃ q, q = N / 2 ^ 0 := ⟨_, rfl⟩
          rw [← hq] at hnq e0 hand ⊢
          have hfl := fl_int q
          have hres := HRR.out
          rw [e0] at hres
          have HLD := Lib.hid fun w => mLdexp_any (fl q) (((0 : Nat) : Int) - d) w (fl_u53 (n := q) (by omega)).1 (by omega) (by omega)
          obtain ⟨y, hy⟩ : ∃ y, y = ldB (fl q) (((0 : Nat) : Int) - d) := ⟨_, rfl⟩
          rw [← hy] at HLD hres
          have HRES := Lib.hid hres
          rw [show ((0 : Nat) : Int) - d = -d by omega] at HLD
          clear hq e0 hy hand hND hkd hres
          go_wp2_with fail
          refine (HLD.out _).mono ?_
          rintro en w' ⟨rfl, rfl⟩
          go_wp2_with fail
          go_ret
          exact ⟨congrArg (fun x => Ending.returned (Value.float .f64 (flipF x))) HRES.out, BX.out⟩
        · have hE : E < 4608 := by omega
          have hbits := rne_bits N E
          have HBE1 := Lib.hid (HB.out E hE)
          have hbe := HBE.out E hE
          have HS1 := Lib.hid (HSO.out E (by omega))
          obtain ⟨b, hb⟩ : ∃ b, b = bitW (negW V) E := ⟨_, rfl⟩
          rw [← hb] at HBE1 hbe
          rw [← hbe] at hbits
          have hb2 := HBL.out E
          rw [← hb] at hb2
          obtain ⟨q, hq⟩ : ∃ q, q = N / 2 ^ (E + 1) := ⟨_, rfl⟩
          rw [← hq] at hnq hand hbits ⊢
          have e1 : ((E + 1 : Nat) : Int) - 1 = (E : Int) := by omega
          have hE0 : (0 : Int) < ((E + 1 : Nat) : Int) := by omega
          have hres := HRR.out
          have hfl0 := fl_int q
          have hfl1 : floatOfInt .f64 ((q : Int) + 1) = fl (q + 1) := fl_int (q + 1)
          have hd3 : ((E + 1 : Nat) : Int) - d ≤ 4608 := by omega
          have HQ := Lib.hid hnq
          have HLD0 := Lib.hid fun w => mLdexp_any (fl q) (((E + 1 : Nat) : Int) - d) w (fl_u53 (n := q) (by omega)).1 (by omega) (by omega)
          have HLD1 := Lib.hid fun w => mLdexp_any (fl (q + 1)) (((E + 1 : Nat) : Int) - d) w (fl_u53 (n := q + 1) (by omega)).1 (by omega) (by omega)
          have hb01 : b = 0 ∨ b = 1 := by omega
          have hq2 := Nat.mod_two_eq_zero_or_one q
          have HRES0 : Hid (rne N (E + 1) = q → ldB (fl q) (((E + 1 : Nat) : Int) - d) = r) := Lib.hid (fun h => by rw [h] at hres; exact hres)
          have HRES1 : Hid (rne N (E + 1) = q + 1 → ldB (fl (q + 1)) (((E + 1 : Nat) : Int) - d) = r) := Lib.hid (fun h => by rw [h] at hres; exact hres)
          clear hq hb hbe hND hkd hres hrle hd3
          obtain ⟨p, hp⟩ : ∃ p, p = N % 2 ^ E := ⟨_, rfl⟩
          rw [← hp] at hbits HS1
          clear hp
          rw [show (((E + 1 : Nat) : Int)) = (E : Int) + 1 by omega] at HLD0 HLD1 HRES0 HRES1
          rcases hb01 with rfl | rfl
          · have HRES := Lib.hid (HRES0.out (by rw [hbits, if_neg (by omega), Nat.add_zero]))
            have HLD := HLD0
            clear hbits HRES0 HRES1 HLD0 HLD1 HS1 hfl1
            obtain ⟨y, hy⟩ : ∃ y, y = ldB (fl q) ((E : Int) + 1 - d) := ⟨_, rfl⟩
            rw [← hy] at HLD HRES
            clear hy
            go_wp2_with fail
            refine HBE1.out.mono ?_
            rintro en w' ⟨rfl, rfl⟩
            go_wp2_with fail
            refine (HLD.out _).mono ?_
            rintro en w' ⟨rfl, rfl⟩
            go_wp2_with fail
            go_ret
            exact ⟨congrArg (fun x => Ending.returned (Value.float .f64 (flipF x))) HRES.out, BX.out⟩
          · rcases hq2 with hq2 | hq2
            · rw [hq2] at hand
              by_cases hp : p = 0
              · have HRES := Lib.hid (HRES0.out (by rw [hbits, if_neg (by omega), Nat.add_zero]))
                have HLD := HLD0
                rw [decide_eq_false (by omega : ¬ p ≠ 0)] at HS1
                clear hbits HRES0 HRES1 HLD0 HLD1 hfl1 hp
                obtain ⟨y, hy⟩ : ∃ y, y = ldB (fl q) ((E : Int) + 1 - d) := ⟨_, rfl⟩
                rw [← hy] at HLD HRES
                clear hy
                go_wp2_with fail
                refine HBE1.out.mono ?_
                rintro en w' ⟨rfl, rfl⟩
                go_wp2_with fail
                refine HS1.out.mono ?_
                rintro en w' ⟨rfl, rfl⟩
                go_wp2_with fail
                refine (HLD.out _).mono ?_
                rintro en w' ⟨rfl, rfl⟩
                go_wp2_with fail
                go_ret
                exact ⟨congrArg (fun x => Ending.returned (Value.float .f64 (flipF x))) HRES.out, BX.out⟩
              · have HRES := Lib.hid (HRES1.out (by rw [hbits, if_pos ⟨rfl, .inr hp⟩]))
                have HLD := HLD1
                rw [decide_eq_true hp] at HS1
                clear hbits HRES0 HRES1 HLD0 HLD1 hfl0 hp
                obtain ⟨y, hy⟩ : ∃ y, y = ldB (fl (q + 1)) ((E : Int) + 1 - d) := ⟨_, rfl⟩
                rw [← hy] at HLD HRES
                clear hy
                go_wp2_with fail
                refine HBE1.out.mono ?_
                rintro en w' ⟨rfl, rfl⟩
                go_wp2_with fail
                refine HS1.out.mono ?_
                rintro en w' ⟨rfl, rfl⟩
                go_wp2_with fail
                refine (HLD.out _).mono ?_
                rintro en w' ⟨rfl, rfl⟩
                go_wp2_with fail
                go_ret
                exact ⟨congrArg (fun x => Ending.returned (Value.float .f64 (flipF x))) HRES.out, BX.out⟩
            · rw [hq2] at hand
              have HRES := Lib.hid (HRES1.out (by rw [hbits, if_pos ⟨rfl, .inl hq2⟩]))
              have HLD := HLD1
              clear hbits HRES0 HRES1 HLD0 HLD1 HS1 hfl0 hq2
              obtain ⟨y, hy⟩ : ∃ y, y = ldB (fl (q + 1)) ((E : Int) + 1 - d) := ⟨_, rfl⟩
              rw [← hy] at HLD HRES
              clear hy
              go_wp2_with fail
              refine HBE1.out.mono ?_
              rintro en w' ⟨rfl, rfl⟩
              go_wp2_with fail
              refine (HLD.out _).mono ?_
              rintro en w' ⟨rfl, rfl⟩
              go_wp2_with fail
              go_ret
              exact ⟨congrArg (fun x => Ending.returned (Value.float .f64 (flipF x))) HRES.out, BX.out⟩
  · have hwv : wv V 72 = s.natAbs := by rw [HV.out.nat hsm (by omega)]; omega
    have hrr : ldB (fl (rne s.natAbs (dropN s.natAbs d))) ((dropN s.natAbs d : Nat) - d) = fvN s d := by
      rw [ldB_fl hrle, ← hrd]; unfold fvN wrd; rw [decide_eq_false hneg, if_neg Bool.false_ne_true]
    have hsg : ¬ sgnI s < 0 := by unfold sgnI; rw [if_neg hneg]; split <;> omega
    obtain ⟨r, hr⟩ : ∃ r, r = fvN s d := ⟨_, rfl⟩
    rw [← hr] at hrr ⊢
    have WX := W1
    have BX := B1
    have HWB := Lib.hid HV.out.1
    obtain ⟨N, hN⟩ : ∃ N, N = s.natAbs := ⟨_, rfl⟩
    rw [← hN] at hwv hrr hrd hdq hN46 hrle
    obtain ⟨g, hg⟩ : ∃ g, g = sgnI s := ⟨_, rfl⟩
    rw [← hg] at hsg HS
    clear hg hN hs' hab hr hneg hsm
    go_enter Try.func111, Try.ntmps111
    go_wp2_with fail
    refine (HS.out w W1.out).mono ?_
    rintro en w' ⟨rfl, rfl⟩
    have HB := Lib.hid fun j hj => bit_any w.heap.size 0 V j _ WX.out HWB.out hj
    have HSO := Lib.hid fun j hj => some_any w.heap.size 0 V j _ WX.out HWB.out hj
    have HLG := Lib.hid (long_any w.heap.size 0 V _ WX.out HWB.out)
    have HBE := Lib.hid fun j hj => bitW_eq HWB.out (n := j) hj
    rw [hwv] at HLG HBE HSO
    have HBL := Lib.hid fun j => bitW_lt V j
    obtain ⟨L, hL⟩ : ∃ L, L = lenN N := ⟨_, rfl⟩
    have hLd := len_div N
    have hL46 := lenN_lt hN46
    rw [← hL] at HLG hLd hL46
    have hD : max (max ((L : Int) - 1 - d - 52) (-1074) + d) 0 = ((dropN N d : Nat) : Int) := by unfold dropN; rw [← hL]; omega
    obtain ⟨D, gD⟩ : ∃ D, D = dropN N d := ⟨_, rfl⟩
    rw [← gD] at hD hdq hrd hrr
    have hD46 : D ≤ 4608 := by unfold K46 at hL46; omega
    have hL46' : L ≤ 4607 := hL46
    have HLd := Lib.hid hLd; have HRD := Lib.hid hrd; have HRR := Lib.hid hrr
    have hN0 : N / 2 ^ D < 9007199254740992 := hdq
    clear hL hLd hL46 gD hwv hrd hrr
    go_wp2_with fail
    refine HLG.out.mono ?_
    rintro en w' ⟨rfl, rfl⟩
    go_wp2_with fail
    refine HLG.out.mono ?_
    rintro en w' ⟨rfl, rfl⟩
    have HD := Lib.hid hD
    have HN0 := Lib.hid hN0
    clear HLG
    go_wp2_with fail
    clear hD hN0
    go_loop [8, 9] (fun nv t => ∃ k : Nat, t = .int .i64 ((k : Int) - 1) ∧ k ≤ L ∧ (D ≤ k ∨ k = L) ∧ nv = .int .u64 (N / 2 ^ k : Nat)) (fun _ t => (intOf t + 1).toNat)
    case atStart => exact ⟨L, by go_num, Nat.le_refl _, .inr rfl, by rw [HLd.out]; rfl⟩
    case round =>
      obtain ⟨k, rfl, hk, hkd, rfl⟩ := hrel
      by_cases hc : D < k
      · rcases k with _ | j
        · omega
        have e : ((j + 1 : Nat) : Int) - 1 = (j : Int) := by omega
        rw [e]
        have hge : (D : Int) ≤ (j : Int) := by omega
        have hnb : N / 2 ^ (j + 1) < 2 ^ 62 := by
          have h1 := HN0.out
          have h2 : N / 2 ^ (j + 1) ≤ N / 2 ^ D := Nat.div_le_div_left (Nat.pow_le_pow_right (by omega) (by omega)) (Nat.two_pow_pos _)
          omega
        have hst := div_shift N j
        have HBj := Lib.hid (HB.out j (by omega))
        have hbl := HBL.out j
        rw [← HBE.out j (by omega)] at hst
        obtain ⟨b, hb⟩ : ∃ b, b = bitW V j := ⟨_, rfl⟩
        obtain ⟨n1, hn1⟩ : ∃ n, n = N / 2 ^ (j + 1) := ⟨_, rfl⟩
        rw [← hb] at hst hbl HBj
        rw [← hn1] at hst hnb ⊢
        have hor := or_bit hnb hbl
        have HST := Lib.hid hst
        obtain ⟨n2, hn2⟩ : ∃ n, n = 2 * n1 + b := ⟨_, rfl⟩
        rw [← hn2] at hor HST
        have h0 : (0 : Int) ≤ (j : Int) := by omega
        clear e hb hn1 hst hn2
        go_wp2_with fail
        refine HBj.out.mono ?_
        rintro en w' ⟨rfl, rfl⟩
        go_wp2_with fail
        go_round
        case rel => exact ⟨j, by go_num, by omega, .inl (by omega), by rw [HST.out]⟩
        case measure => (simp [intOf] <;> omega)
      · have hlt : (k : Int) - 1 < (D : Int) := by omega
        have hND : N / 2 ^ k = N / 2 ^ D := by
          rcases hkd with h | h
          · rw [show k = D by omega]
          · subst h
            have h1 := HLd.out
            have h2 : N / 2 ^ D ≤ N / 2 ^ k := Nat.div_le_div_left (Nat.pow_le_pow_right (by omega) (by omega)) (Nat.two_pow_pos _)
            rw [h1] at h2
            rw [h1, Nat.le_zero.1 h2]
        rw [hND]
        have hkL := hk
        have hnq := HN0.out
        have hand := and_mask (b := N / 2 ^ D) (n := 1) (by omega) (by omega)
        rw [show ((2 ^ 1 - 1 : Nat) : Int) = 1 from rfl, show (2 : Nat) ^ 1 = 2 from rfl] at hand
        rcases D with _ | E
        · have e0 : rne N 0 = N / 2 ^ 0 := by rw [rne_zero, Nat.pow_zero, Nat.div_one]
          obtain ⟨q, hq⟩ : ∃ q, q = N / 2 ^ 0 := ⟨_, rfl⟩
          rw [← hq] at hnq e0 hand ⊢
          have hfl := fl_int q
          have hres := HRR.out
          rw [e0] at hres
          have HLD := Lib.hid fun w => mLdexp_any (fl q) (((0 : Nat) : Int) - d) w (fl_u53 (n := q) (by omega)).1 (by omega) (by omega)
          obtain ⟨y, hy⟩ : ∃ y, y = ldB (fl q) (((0 : Nat) : Int) - d) := ⟨_, rfl⟩
          rw [← hy] at HLD hres
          have HRES := Lib.hid hres
          rw [show ((0 : Nat) : Int) - d = -d by omega] at HLD
          clear hq e0 hy hand hND hkd hres
          go_wp2_with fail
          refine (HLD.out _).mono ?_
          rintro en w' ⟨rfl, rfl⟩
          go_wp2_with fail
          go_ret
          exact ⟨congrArg (fun x => Ending.returned (Value.float .f64 (x))) HRES.out, BX.out⟩
        · have hE : E < 4608 := by omega
          have hbits := rne_bits N E
          have HBE1 := Lib.hid (HB.out E hE)
          have hbe := HBE.out E hE
          have HS1 := Lib.hid (HSO.out E (by omega))
          obtain ⟨b, hb⟩ : ∃ b, b = bitW V E := ⟨_, rfl⟩
          rw [← hb] at HBE1 hbe
          rw [← hbe] at hbits
          have hb2 := HBL.out E
          rw [← hb] at hb2
          obtain ⟨q, hq⟩ : ∃ q, q = N / 2 ^ (E + 1) := ⟨_, rfl⟩
          rw [← hq] at hnq hand hbits ⊢
          have e1 : ((E + 1 : Nat) : Int) - 1 = (E : Int) := by omega
          have hE0 : (0 : Int) < ((E + 1 : Nat) : Int) := by omega
          have hres := HRR.out
          have hfl0 := fl_int q
          have hfl1 : floatOfInt .f64 ((q : Int) + 1) = fl (q + 1) := fl_int (q + 1)
          have hd3 : ((E + 1 : Nat) : Int) - d ≤ 4608 := by omega
          have HQ := Lib.hid hnq
          have HLD0 := Lib.hid fun w => mLdexp_any (fl q) (((E + 1 : Nat) : Int) - d) w (fl_u53 (n := q) (by omega)).1 (by omega) (by omega)
          have HLD1 := Lib.hid fun w => mLdexp_any (fl (q + 1)) (((E + 1 : Nat) : Int) - d) w (fl_u53 (n := q + 1) (by omega)).1 (by omega) (by omega)
          have hb01 : b = 0 ∨ b = 1 := by omega
          have hq2 := Nat.mod_two_eq_zero_or_one q
          have HRES0 : Hid (rne N (E + 1) = q → ldB (fl q) (((E + 1 : Nat) : Int) - d) = r) := Lib.hid (fun h => by rw [h] at hres; exact hres)
          have HRES1 : Hid (rne N (E + 1) = q + 1 → ldB (fl (q + 1)) (((E + 1 : Nat) : Int) - d) = r) := Lib.hid (fun h => by rw [h] at hres; exact hres)
          clear hq hb hbe hND hkd hres hrle hd3
          obtain ⟨p, hp⟩ : ∃ p, p = N % 2 ^ E := ⟨_, rfl⟩
          rw [← hp] at hbits HS1
          clear hp
          rw [show (((E + 1 : Nat) : Int)) = (E : Int) + 1 by omega] at HLD0 HLD1 HRES0 HRES1
          rcases hb01 with rfl | rfl
          · have HRES := Lib.hid (HRES0.out (by rw [hbits, if_neg (by omega), Nat.add_zero]))
            have HLD := HLD0
            clear hbits HRES0 HRES1 HLD0 HLD1 HS1 hfl1
            obtain ⟨y, hy⟩ : ∃ y, y = ldB (fl q) ((E : Int) + 1 - d) := ⟨_, rfl⟩
            rw [← hy] at HLD HRES
            clear hy
            go_wp2_with fail
            refine HBE1.out.mono ?_
            rintro en w' ⟨rfl, rfl⟩
            go_wp2_with fail
            refine (HLD.out _).mono ?_
            rintro en w' ⟨rfl, rfl⟩
            go_wp2_with fail
            go_ret
            exact ⟨congrArg (fun x => Ending.returned (Value.float .f64 (x))) HRES.out, BX.out⟩
          · rcases hq2 with hq2 | hq2
            · rw [hq2] at hand
              by_cases hp : p = 0
              · have HRES := Lib.hid (HRES0.out (by rw [hbits, if_neg (by omega), Nat.add_zero]))
                have HLD := HLD0
                rw [decide_eq_false (by omega : ¬ p ≠ 0)] at HS1
                clear hbits HRES0 HRES1 HLD0 HLD1 hfl1 hp
                obtain ⟨y, hy⟩ : ∃ y, y = ldB (fl q) ((E : Int) + 1 - d) := ⟨_, rfl⟩
                rw [← hy] at HLD HRES
                clear hy
                go_wp2_with fail
                refine HBE1.out.mono ?_
                rintro en w' ⟨rfl, rfl⟩
                go_wp2_with fail
                refine HS1.out.mono ?_
                rintro en w' ⟨rfl, rfl⟩
                go_wp2_with fail
                refine (HLD.out _).mono ?_
                rintro en w' ⟨rfl, rfl⟩
                go_wp2_with fail
                go_ret
                exact ⟨congrArg (fun x => Ending.returned (Value.float .f64 (x))) HRES.out, BX.out⟩
              · have HRES := Lib.hid (HRES1.out (by rw [hbits, if_pos ⟨rfl, .inr hp⟩]))
                have HLD := HLD1
                rw [decide_eq_true hp] at HS1
                clear hbits HRES0 HRES1 HLD0 HLD1 hfl0 hp
                obtain ⟨y, hy⟩ : ∃ y, y = ldB (fl (q + 1)) ((E : Int) + 1 - d) := ⟨_, rfl⟩
                rw [← hy] at HLD HRES
                clear hy
                go_wp2_with fail
                refine HBE1.out.mono ?_
                rintro en w' ⟨rfl, rfl⟩
                go_wp2_with fail
                refine HS1.out.mono ?_
                rintro en w' ⟨rfl, rfl⟩
                go_wp2_with fail
                refine (HLD.out _).mono ?_
                rintro en w' ⟨rfl, rfl⟩
                go_wp2_with fail
                go_ret
                exact ⟨congrArg (fun x => Ending.returned (Value.float .f64 (x))) HRES.out, BX.out⟩
            · rw [hq2] at hand
              have HRES := Lib.hid (HRES1.out (by rw [hbits, if_pos ⟨rfl, .inl hq2⟩]))
              have HLD := HLD1
              clear hbits HRES0 HRES1 HLD0 HLD1 HS1 hfl0 hq2
              obtain ⟨y, hy⟩ : ∃ y, y = ldB (fl (q + 1)) ((E : Int) + 1 - d) := ⟨_, rfl⟩
              rw [← hy] at HLD HRES
              clear hy
              go_wp2_with fail
              refine HBE1.out.mono ?_
              rintro en w' ⟨rfl, rfl⟩
              go_wp2_with fail
              refine (HLD.out _).mono ?_
              rintro en w' ⟨rfl, rfl⟩
              go_wp2_with fail
              go_ret
              exact ⟨congrArg (fun x => Ending.returned (Value.float .f64 (x))) HRES.out, BX.out⟩
end Go.Proofs.Ytjakjnmfndfehaa
