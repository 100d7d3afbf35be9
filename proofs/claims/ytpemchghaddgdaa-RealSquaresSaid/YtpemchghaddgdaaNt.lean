/- The document's rounding: what Rounded of the reference gives. Conditions: sizes of at most 52 and 11 bits; where something is left behind the digits, there are digits enough. -/
import Derived.Test.YtpemchghaddgdaaRh
import Derived.Test.YtpemchghaddgdaaNs
import Derived.Deep.CutBlock
import Derived.Deep.LoopGhost
namespace Go.Proofs.Ytpemchghaddgdaa
open Go.RowKit Go.Pst
set_option maxRecDepth 20000
set_option linter.unusedSimpArgs false
set_option linter.unusedVariables false


theorem and_one (n : Nat) (h : n < 2 ^ 64) : bits .and .u64 (n : Int) 1 = ((n % 2 : Nat) : Int) := and_mask (n := 1) h (by omega)
theorem odd_cast (n : Nat) : Value.bool (((n % 2 : Nat) : Int) == 1) = .bool (n % 2 == 1) := by congr 1; rw [Bool.eq_iff_iff]; simp; omega

theorem ret_i64 {a b : Int} (h : a = b) : Value.int .i64 a = .int .i64 b := by rw [h]



set_option maxHeartbeats 4000000 in
theorem refround_any (f e T Bs N : Nat) (x0 : Int) (neg s : Bool) (w : World) (hf : f ≤ 52) (he1 : 1 ≤ e) (he : e ≤ 11) (hT : T = 2 ^ e - 1) (hBs : Bs = (2 ^ e - 1) / 2)
    (hN : N < 2 ^ 64) (hs : s = true → 2 ^ f ≤ N) (hx1 : -2 ^ 40 ≤ x0) (hx2 : x0 ≤ 2 ^ 40) :
    Calls Try.prog 55 #[.bool neg, .int .u64 N, .int .i64 x0, .bool s, .agg #[.int .i64 f, .int .i64 T, .int .i64 Bs]] w fun en w' =>
      en = .returned (.int .u64 (signedBits f e neg (rndN f e (4 * N + s.toNat) (x0 - 2)))) ∧ Below w.heap.size w w' := by
  obtain ⟨r, hr⟩ : ∃ r, r = signedBits f e neg (rndN f e (4 * N + s.toNat) (x0 - 2)) := ⟨_, rfl⟩
  rw [← hr]
  obtain ⟨M, hM⟩ : ∃ M, M = 4 * N + s.toNat := ⟨_, rfl⟩
  obtain ⟨E, hE⟩ : ∃ E, E = x0 - 2 := ⟨_, rfl⟩
  rw [← hM, ← hE] at hr
  obtain ⟨P, hP⟩ : ∃ P, P = 2 ^ f := ⟨_, rfl⟩
  have a0 : (2 : Int) ^ f = (P : Int) := by rw [hP]; simp
  have a0' : (2 : Int) ^ (f + 1) = 2 * (P : Int) := by rw [hP, Int.pow_succ]; simp; omega
  have a1 : 1 ≤ P := by rw [hP]; exact Nat.one_le_two_pow
  have a2 : P ≤ 2 ^ 52 := by rw [hP]; exact Nat.pow_le_pow_right (by omega) hf
  have a3' : 2 ^ e ≤ 2 ^ 11 := Nat.pow_le_pow_right (by omega) he
  have a3 : T ≤ 2047 := by omega
  have a4 : Bs ≤ 2047 := by omega
  have hL : lst f e = 1 - (Bs : Int) - f := by unfold lst; omega
  have hsg := fun w => rsign_any f T Bs e w hf he (by have : 1 ≤ 2 ^ e := Nat.one_le_two_pow; omega)
  have hz := S_zero N s.toNat (by cases s <;> simp)
  rw [← hM] at hz
  have F1 := Lib.hid (loop1_go f e M E)
  have F2 := Lib.hid (loop1_end f e M E)
  have F3 := Lib.hid (loop2_go f e N s.toNat E (by cases s <;> simp) (by cases s <;> simp <;> simpa using hs))
  have F4 := Lib.hid (loop2_end f e N s.toNat E (by cases s <;> simp) (by cases s <;> simp <;> simpa using hs))
  rw [← hM] at F3 F4
  rw [← hP] at F3 F4
  rw [Nat.pow_succ, ← hP] at F1 F2
  have hRl : (R1 f e M E : Int) ≤ 2 ^ 42 := by
    have hl : M.log2 ≤ 67 := by
      by_cases hM0 : M = 0
      · subst hM0; simp
      · have h1 : M < 2 ^ 67 := by rw [hM]; cases s <;> simp <;> omega
        have := (Nat.log2_lt hM0).2 h1
        omega
    have hk : kap f e M E = max ((M.log2 : Int) - f) (lst f e - E) := rfl
    unfold R1; split <;> omega
  have hnl : ∀ i, nS M i ≤ N := fun i => by
    have : nS M i ≤ nS M 0 := Nat.div_le_div_left (Nat.pow_le_pow_right (by omega) (by omega)) (by omega)
    omega
  have HS := Lib.hid hsg; clear hsg
  have HR := Lib.hid hr; clear hr
  have HPP := Lib.hid hP; clear hP
  have HTT := Lib.hid hT; clear hT
  have HBB := Lib.hid hBs; clear hBs
  have HL := Lib.hid hL
  generalize hLL : lst f e = L at *
  have HLL := Lib.hid hLL; clear hLL
  clear a3' hs
  have HM := Lib.hid hM; clear hM
  have HE := Lib.hid hE; clear hE
  have HZ := Lib.hid hz; clear hz
  have HNL := Lib.hid hnl; clear hnl
  have hlw : wrap64 (wrap64 (1 - (Bs : Int)) - f) = L := by unfold wrap64; omega
  generalize hRR : R1 f e M E = R at *
  have HRR := Lib.hid hRR; clear hRR
  go_enter Try.func55, Try.ntmps55
  go_upto_block 0 with (fail)
  have W1 : Below w.heap.size w (w.alloc (.cells #[.int .i64 f, .int .i64 T, .int .i64 Bs] 35)) := (Below.refl _ _).alloc (Nat.le_refl _) _
  go_cut [1, 2, 3, 12] (fun s1 s2 s3 s12 wx => (s1 = .int .u64 (nS M R) ∧ s2 = .int .i64 (x0 + R) ∧ s3 = .bool (bS M R) ∧ s12 = .bool (hS M R)) ∧ wx = w.alloc (.cells #[.int .i64 f, .int .i64 T, .int .i64 Bs] 35))
  case first =>
    go_wp2_with fail
    go_loopg [1, 2, 3, 12] R (fun k s1 s2 s3 s12 wx => ∃ i, i + k = R ∧ s1 = .int .u64 (nS M i) ∧ s2 = .int .i64 (x0 + i) ∧ s3 = .bool (bS M i) ∧ s12 = .bool (hS M i) ∧ wx = w.alloc (.cells #[.int .i64 f, .int .i64 T, .int .i64 Bs] 35))
    case atStart => exact ⟨0, by omega, by rw [HZ.out.1], ret_i64 (by omega), by rw [HZ.out.2.2]; cases s <;> rfl, by rw [HZ.out.2.1], rfl⟩
    case round =>
      obtain ⟨i, hik, rfl, rfl, rfl, rfl, rfl⟩ := hrel
      have hn64 : nS M i < 2 ^ 64 := Nat.lt_of_le_of_lt (HNL.out i) hN
      rcases Nat.lt_or_ge i R with hiR | hiR
      · have g1 := F1.out i hiR
        have hxi : (R : Int) ≤ 2 ^ 42 ∧ (i : Int) < R := ⟨hRl, by omega⟩
        obtain ⟨x, hxx⟩ : ∃ x : Int, x = x0 + i := ⟨_, rfl⟩
        rw [show E + 2 + (i : Int) = x by rw [hxx, HE.out]; omega] at g1
        rw [← hxx]
        have hxb : -2 ^ 43 < x ∧ x < 2 ^ 43 := by omega
        have Hx := Lib.hid hxx; clear hxx hxi
        obtain ⟨n, hn⟩ : ∃ n, nS M i = n := ⟨_, rfl⟩
        obtain ⟨h, hh⟩ : ∃ h, hS M i = h := ⟨_, rfl⟩
        obtain ⟨b, hb⟩ : ∃ b, bS M i = b := ⟨_, rfl⟩
        rw [hn] at g1 hn64
        rw [hh, hb] at g1
        rw [hn, hh, hb]
        have Hn := Lib.hid hn; have Hh := Lib.hid hh; have Hb := Lib.hid hb
        clear hn hh hb
        have hand := and_one n hn64
        have Hik := Lib.hid (And.intro hik hiR); clear hik hiR
        rcases g1 with g1 | ⟨g1, g2, g3⟩
        · cases b <;> cases h <;>
          ·
            go_wp2_with fail
            go_roundg (gk - 1)
            case measure => have := Hik.out; omega
            case rel => exact ⟨i + 1, by have := Hik.out; omega, by rw [nS_succ, Hn.out]; rfl, ret_i64 (by rw [Hx.out]; omega), by rw [bS_succ, Hb.out, Hh.out]; rfl, by rw [hS_succ, Hn.out]; exact odd_cast n, rfl⟩
        · have g1' : ¬ (2 * (P : Int) ≤ n) := by omega
          rcases g3 with g3 | ⟨g3, g4⟩ | ⟨g3, g4, g5⟩
          · cases b <;> cases h <;>
            ·
              go_wp2_with fail
              go_roundg (gk - 1)
              case measure => have := Hik.out; omega
              case rel => exact ⟨i + 1, by have := Hik.out; omega, by rw [nS_succ, Hn.out]; rfl, ret_i64 (by rw [Hx.out]; omega), by rw [bS_succ, Hb.out, Hh.out]; rfl, by rw [hS_succ, Hn.out]; exact odd_cast n, rfl⟩
          · subst g3 g4
            cases b <;>
            ·
              go_wp2_with fail
              go_roundg (gk - 1)
              case measure => have := Hik.out; omega
              case rel => exact ⟨i + 1, by have := Hik.out; omega, by rw [nS_succ, Hn.out]; rfl, ret_i64 (by rw [Hx.out]; omega), by rw [bS_succ, Hb.out, Hh.out]; rfl, by rw [hS_succ, Hn.out]; exact odd_cast 0, rfl⟩
          · subst g3 g4 g5
            go_wp2_with fail
            go_roundg (gk - 1)
            case measure => have := Hik.out; omega
            case rel => exact ⟨i + 1, by have := Hik.out; omega, by rw [nS_succ, Hn.out]; rfl, ret_i64 (by rw [Hx.out]; omega), by rw [bS_succ, Hb.out, Hh.out]; rfl, by rw [hS_succ, Hn.out]; exact odd_cast 0, rfl⟩
      · obtain rfl : i = R := by omega
        by_cases hM0 : M = 0
        · have g : nS M i = 0 ∧ hS M i = false ∧ bS M i = false := by
            subst hM0
            refine ⟨by simp [nS], by simp [hS], by simp [bS]⟩
          rw [g.1, g.2.1, g.2.2]
          have G := Lib.hid g
          clear hM0 g hiR hn64 hik
          obtain ⟨x, hxx⟩ : ∃ x : Int, x = x0 + i := ⟨_, rfl⟩
          rw [← hxx]
          have Hx := Lib.hid hxx; clear hxx
          have g1 : ¬ (2 * (P : Int) ≤ 0) := by omega
          rcases Int.lt_or_le x L with hxL | hxL
          · go_wp2_with fail
            go_meet
            case rel => exact ⟨⟨by rw [G.out.1]; rfl, by rw [Hx.out], by rw [G.out.2.2], by rw [G.out.2.1]⟩, rfl⟩
          · have hxL' : ¬ x < L := by omega
            go_wp2_with fail
            go_meet
            case rel => exact ⟨⟨by rw [G.out.1]; rfl, by rw [Hx.out], by rw [G.out.2.2], by rw [G.out.2.1]⟩, rfl⟩
        · have g := F2.out hM0
          obtain ⟨n, hn⟩ : ∃ n, nS M i = n := ⟨_, rfl⟩
          obtain ⟨h, hh⟩ : ∃ h, hS M i = h := ⟨_, rfl⟩
          obtain ⟨b, hb⟩ : ∃ b, bS M i = b := ⟨_, rfl⟩
          rw [hn] at g hn64
          rw [hn, hh, hb]
          obtain ⟨x, hxx⟩ : ∃ x : Int, x = x0 + i := ⟨_, rfl⟩
          rw [show E + 2 + (i : Int) = x by rw [hxx, HE.out]; omega] at g
          rw [← hxx]
          have g1 : ¬ (2 * (P : Int) ≤ n) := by omega
          have g2 : ¬ x < L := by omega
          have Hx := Lib.hid hxx; have Hn := Lib.hid hn; have Hh := Lib.hid hh; have Hb := Lib.hid hb
          clear hxx g hn hh hb hM0 hiR hik
          go_wp2_with fail
          go_meet
          case rel => exact ⟨⟨by rw [Hn.out], by rw [Hx.out], by rw [Hb.out], by rw [Hh.out]⟩, rfl⟩
  case rest =>
    obtain ⟨⟨rfl, rfl, rfl, rfl⟩, rfl⟩ := hcut
    have hn64 : nS M R < 2 ^ 64 := Nat.lt_of_le_of_lt (HNL.out R) hN
    have hRR2 : R2 f e M E ≤ R2 f e M E := Nat.le_refl _
    have F3' := F3
    generalize hQQ : R2 f e M E = Q at F3'
    have HQQ := Lib.hid hQQ; clear hQQ hRR2
    have HN64 := Lib.hid hn64; clear hn64
    generalize hh : hS M R = h at *
    generalize hb : bS M R = b at *
    have Hh := Lib.hid hh; have Hb := Lib.hid hb; clear hh hb
    go_upto_block 2 with (fail)
    go_cut [1, 2] (fun s1 s2 wx => (s1 = .int .u64 ((nS M R * 2 ^ Q : Nat) : Int) ∧ s2 = .int .i64 (x0 + R - Q)) ∧ wx = w.alloc (.cells #[.int .i64 f, .int .i64 T, .int .i64 Bs] 35))
    case first =>
      go_wp2_with fail
      go_loopg [1, 2] Q (fun k s1 s2 wx => ∃ j, j + k = Q ∧ s1 = .int .u64 ((nS M R * 2 ^ j : Nat) : Int) ∧ s2 = .int .i64 (x0 + R - j) ∧ wx = w.alloc (.cells #[.int .i64 f, .int .i64 T, .int .i64 Bs] 35))
      case atStart => exact ⟨0, by omega, by simp, ret_i64 (by omega), rfl⟩
      case round =>
        obtain ⟨j, hjk, rfl, rfl, rfl⟩ := hrel
        rcases Nat.lt_or_ge j Q with hjQ | hjQ
        · obtain ⟨g1, g2, g3, g4, g5⟩ := F3'.out j hjQ
          have hz := HZ.out
          obtain rfl : h = false := by rw [← Hh.out, g5, hz.2.1]
          obtain rfl : b = false := by rw [← Hb.out, g5, hz.2.2, g1]; rfl
          have en : nS M R * 2 ^ j = N * 2 ^ j := by rw [g5, hz.1]
          have ep : 0 < N * 2 ^ j := Nat.mul_pos g2 (Nat.two_pow_pos _)
          obtain ⟨n, hn⟩ : ∃ n, nS M R * 2 ^ j = n := ⟨_, rfl⟩
          obtain ⟨x, hxx⟩ : ∃ x : Int, x = x0 + R - j := ⟨_, rfl⟩
          rw [← en, hn] at g3 ep
          rw [hn, ← hxx]
          have gx : L < x := by rw [hxx]; have := HE.out; omega
          have gx2 : x < 2 ^ 43 := by omega
          have Hx := Lib.hid hxx; have Hn := Lib.hid hn; have Hj := Lib.hid (And.intro hjk hjQ)
          clear hxx hn hjk hjQ en g1 g2 g4 g5 hz
          go_wp2_with fail
          go_roundg (gk - 1)
          case measure => have := Hj.out; omega
          case rel => exact ⟨j + 1, by have := Hj.out; omega, by rw [Nat.pow_succ, ← Nat.mul_assoc, Hn.out]; rfl, ret_i64 (by rw [Hx.out]; omega), rfl⟩
        · obtain rfl : j = Q := by omega
          obtain ⟨n, hn⟩ : ∃ n, nS M R * 2 ^ j = n := ⟨_, rfl⟩
          obtain ⟨x, hxx⟩ : ∃ x : Int, x = x0 + R - j := ⟨_, rfl⟩
          have g : n = 0 ∨ (0 < n ∧ P ≤ n) ∨ (0 < n ∧ n < P ∧ x ≤ L) ∨ (0 < n ∧ n < P ∧ L < x ∧ h = true) ∨ (0 < n ∧ n < P ∧ L < x ∧ h = false ∧ b = true) := by
            rcases Nat.eq_zero_or_pos n with h0 | h0
            · exact .inl h0
            · rcases Nat.lt_or_ge n P with h1 | h1
              · rcases Int.lt_or_le L x with h2 | h2
                · have hM0 : M ≠ 0 := fun e => by
                    rw [e] at hn; simp [nS] at hn; omega
                  have g4 := (F4.out hM0).2.1
                  rw [HRR.out, HQQ.out, Hh.out, Hb.out, hn] at g4
                  have g5 := g4 h0 h1 (by rw [hxx, HE.out] at *; omega)
                  cases h
                  · exact .inr (.inr (.inr (.inr ⟨h0, h1, h2, rfl, by simpa using g5⟩)))
                  · exact .inr (.inr (.inr (.inl ⟨h0, h1, h2, rfl⟩)))
                · exact .inr (.inr (.inl ⟨h0, h1, h2⟩))
              · exact .inr (.inl ⟨h0, h1⟩)
          have hn64 : n < 2 ^ 64 := by
            rcases Nat.eq_zero_or_pos j with h0 | h0
            · subst h0; rw [Nat.pow_zero, Nat.mul_one] at hn; have := HN64.out; omega
            · obtain ⟨q, rfl⟩ : ∃ q, j = q + 1 := ⟨j - 1, by omega⟩
              have g5 := F3'.out q (by omega)
              rw [g5.2.2.2.2, HZ.out.1, Nat.pow_succ, ← Nat.mul_assoc] at hn
              omega
          rw [hn, ← hxx]
          have Hx := Lib.hid hxx; have Hn := Lib.hid hn
          clear hxx hn hjk hjQ
          rcases g with rfl | ⟨g1, g2⟩ | ⟨g1, g2, g3⟩ | ⟨g1, g2, g3, rfl⟩ | ⟨g1, g2, g3, rfl, rfl⟩
          · go_wp2_with fail
            go_meet
            case rel => exact ⟨⟨by rw [Hn.out], by rw [Hx.out]⟩, rfl⟩
          · have g3 : ¬ n < P := by omega
            go_wp2_with fail
            go_meet
            case rel => exact ⟨⟨by rw [Hn.out], by rw [Hx.out]⟩, rfl⟩
          · have g4 : ¬ L < x := by omega
            go_wp2_with fail
            go_meet
            case rel => exact ⟨⟨by rw [Hn.out], by rw [Hx.out]⟩, rfl⟩
          · go_wp2_with fail
            go_meet
            case rel => exact ⟨⟨by rw [Hn.out], by rw [Hx.out]⟩, rfl⟩
          · go_wp2_with fail
            go_meet
            case rel => exact ⟨⟨by rw [Hn.out], by rw [Hx.out]⟩, rfl⟩
    case rest =>
      obtain ⟨⟨rfl, rfl⟩, rfl⟩ := hcut
      obtain ⟨n, hn⟩ : ∃ n, nS M R * 2 ^ Q = n := ⟨_, rfl⟩
      obtain ⟨x, hxx⟩ : ∃ x : Int, x = x0 + R - Q := ⟨_, rfl⟩
      obtain ⟨v, hv⟩ : ∃ v, v = (h && (b || n % 2 == 1)) := ⟨_, rfl⟩
      obtain ⟨m, hm⟩ : ∃ m, m = n + v.toNat := ⟨_, rfl⟩
      have hfin : (M = 0 ∧ m = 0 ∧ -2 ^ 43 < x ∧ x < 2 ^ 43) ∨ (M ≠ 0 ∧ m = keptN f e M E ∧ x = E + kap f e M E ∧ m ≤ 2 * P ∧ (m < P → x = L) ∧ L ≤ x ∧ x < 2 ^ 43) := by
        by_cases hM0 : M = 0
        · refine .inl ⟨hM0, ?_, ?_, ?_⟩
          · rw [hm, hv, ← hn, ← Hh.out, hM0]; simp [nS, hS]
          · rw [hxx]; have := HQQ.out; rw [hM0] at this; unfold R2 at this; rw [if_pos rfl] at this; omega
          · rw [hxx]; omega
        · refine .inr ⟨hM0, ?_⟩
          obtain ⟨-, -, g3, g4⟩ := F4.out hM0
          rw [HRR.out, HQQ.out, Hh.out, Hb.out, hn] at g3
          rw [HRR.out, HQQ.out] at g4
          have e1 : m = keptN f e M E := by
            rw [← g3, hm, hv]; congr 1
            cases h <;> cases b <;> simp
            split <;> simp [*]
          have e2 : x = E + kap f e M E := by rw [← g4, hxx, HE.out]; omega
          have k := kept_facts f e M E hM0
          rw [← e1, ← e2, Nat.pow_succ, ← HPP.out, HLL.out] at k
          exact ⟨e1, e2, by omega, k.2.1, k.2.2, by omega⟩
      rw [hn, ← hxx]
      have hn2 : n < 2 ^ 64 := by omega
      have hn3 : v = true → (n : Int) + 1 < 18446744073709551616 := fun hv => by
        have : v.toNat = 1 := by rw [hv]; rfl
        omega
      have hm2 : m ≤ 2 * P := by omega
      have Hx := Lib.hid hxx; have Hn := Lib.hid hn; have Hv := Lib.hid hv; have Hm := Lib.hid hm; have HF := Lib.hid hfin
      clear hxx hn hm hfin
      have hand := and_one n hn2
      go_upto_region 11 with (fail)
      go_cut [88] (fun s88 wx => s88 = .bool v ∧ wx = w.alloc (.cells #[.int .i64 f, .int .i64 T, .int .i64 Bs] 35))
      case first =>
        cases h
        · go_wp2_with fail
          go_meet
          case rel => exact ⟨by rw [Hv.out]; rfl, rfl⟩
        · cases b
          · go_wp2_with fail
            go_meet
            case rel => exact ⟨by rw [Hv.out]; simp only [Bool.true_and, Bool.false_or]; exact odd_cast n, rfl⟩
          · go_wp2_with fail
            go_meet
            case rel => exact ⟨by rw [Hv.out]; rfl, rfl⟩
      case rest =>
        obtain ⟨rfl, rfl⟩ := hcut
        clear hv hand
        go_upto_if 88 with (fail)
        go_cut [1] (fun s1 wx => s1 = .int .u64 m ∧ wx = w.alloc (.cells #[.int .i64 f, .int .i64 T, .int .i64 Bs] 35))
        case first =>
          cases v
          · go_wp2_with fail
            go_meet
            case rel => exact ⟨by rw [Hm.out]; rfl, rfl⟩
          · have hn4 := hn3 rfl
            clear hn3
            go_wp2_with fail
            go_meet
            case rel => exact ⟨by rw [Hm.out]; simp, rfl⟩
        case rest =>
          obtain ⟨rfl, rfl⟩ := hcut
          clear hn3
          have hpm : -2 ^ 43 < x ∧ x < 2 ^ 43 := by have := HF.out; omega
          have bTP : IntKind.u64.wrap ((T : Int) * (P : Int)) = ((T * P : Nat) : Int) := by
            rw [← Int.natCast_mul]; refine wrapU _ ?_
            have := top_lt hf he
            rw [← HPP.out, ← HTT.out] at this; omega
          obtain ⟨TP, hTP⟩ : ∃ TP, TP = T * P := ⟨_, rfl⟩
          rw [← hTP] at bTP
          have HTP := Lib.hid hTP; clear hTP
          obtain ⟨G, hG⟩ : ∃ G, G = 2 ^ (f + e) := ⟨_, rfl⟩
          have hs2 : ∀ w, Calls Try.prog 78 #[.agg #[.int .i64 f, .int .i64 T, .int .i64 Bs]] w fun en w' => en = .returned (.int .u64 (G : Int)) ∧ Below w.heap.size w w' := by rw [hG]; exact HS.out
          have HS2 := Lib.hid hs2; clear hs2
          have HGG := Lib.hid hG; clear hG HS
          have hG64 : G < 2 ^ 64 := by rw [HGG.out]; exact Nat.pow_lt_pow_right (by omega) (by omega)
          have hfe : ∃ u : Nat, u = rndN f e M E ∧ u < 2 ^ 64 ∧ (m = 0 ∧ u = 0 ∨ 0 < m ∧ m < P ∧ u = m ∨ P ≤ m ∧ (T : Int) - Bs - f ≤ (if m = 2 * P then x + 1 else x) ∧ u = TP ∨
              P ≤ m ∧ ¬ (T : Int) - Bs - f ≤ (if m = 2 * P then x + 1 else x) ∧ ∃ Y : Nat, (Y : Int) = (if m = 2 * P then x + 1 else x) + Bs + f ∧ Y * P < 2 ^ 64 ∧ u = Y * P + (if m = 2 * P then P else m) % P) := by
            have hd := HF.out
            have hPP := HPP.out; have hTT := HTT.out; have hBB := HBB.out; have hLl := HLL.out; have hTPP := HTP.out
            rcases hd with ⟨hM0, hm0, -, -⟩ | ⟨hM0, g1, g2, g3, g4, g5, g6⟩
            · exact ⟨0, by rw [hM0]; simp [rndN], by omega, .inl ⟨hm0, rfl⟩⟩
            · have hr : rndN f e M E = min ((x - L).toNat * P + m) (T * P) := by
                unfold rndN; rw [if_neg hM0, ← g1, ← g2, ← hPP, ← hTT, hLl]
              have hq := rnd_fin f e m x he1 (by rw [Nat.pow_succ, ← hPP]; omega) (by rw [← hPP, hLl]; exact g4) (by rw [hLl]; exact g5)
              rw [← hPP, ← hTT, hLl, Nat.pow_succ, ← hPP, ← hr, Nat.mul_comm P 2] at hq
              have hTP64 : T * P < 2 ^ 63 := by have := top_lt hf he; rwa [← hPP, ← hTT] at this
              refine ⟨_, rfl, ?_, ?_⟩
              · rw [hr]; omega
              · rw [hq]
                obtain ⟨z, hz⟩ : ∃ z, z = (if m = 2 * P then x + 1 else x) := ⟨_, rfl⟩
                have hzb : z - L + 1 = z + Bs + f ∧ L ≤ z := by split at hz <;> omega
                rw [← hz]
                rcases Nat.eq_zero_or_pos m with h0 | h0
                · exact .inl ⟨h0, by rw [if_pos (by omega)]; exact h0⟩
                · rcases Nat.lt_or_ge m P with h1 | h1
                  · exact .inr (.inl ⟨h0, h1, by rw [if_pos h1]⟩)
                  · rw [if_neg (by omega)]
                    by_cases h2 : (T : Int) ≤ z - L + 1
                    · exact .inr (.inr (.inl ⟨h1, by omega, by rw [if_pos h2, ← hTPP]⟩))
                    · refine .inr (.inr (.inr ⟨h1, by omega, (z - L + 1).toNat, by omega, ?_, by rw [if_neg h2]⟩))
                      have : (z - L + 1).toNat * P ≤ T * P := Nat.mul_le_mul_right _ (by omega)
                      omega
          obtain ⟨u, hu, hu64, hcs⟩ := hfe
          have HU := Lib.hid hu; clear hu
          have hcs0 := True.intro
          have hP0 : ((P : Int) == 0) = false := by simp; omega
          have hPd : (P : Int) / P = 1 := Int.ediv_self (by omega)
          rcases hcs with ⟨h1, h2⟩ | ⟨h1, h2, h3⟩ | ⟨h1, h2, h3⟩ | ⟨h1, h2, Y, h3, h4, h5⟩
          · have HU2 := Lib.hid (h2.symm.trans HU.out)
            subst h1
            have hm0 : ((0 : Int) == 2 * (P : Int)) = false := by simp; omega
            have hor : bits .or .u64 (0 : Int) (G : Int) = ((0 ||| G : Nat) : Int) := or64 (a := 0) (b := G) (by omega) hG64
            obtain ⟨y, hy⟩ : ∃ y : Nat, y = 0 ||| G := ⟨_, rfl⟩
            rw [← hy] at hor
            have HY := Lib.hid hy
            clear h2 hy hpm hcs0
            cases neg
            · go_wp2_with fail
              go_ret
              exact ⟨by rw [HR.out, ← HU2.out]; rfl, W1⟩
            · go_wp2_with fail
              refine (HS2.out _).mono ?_
              rintro en w' ⟨rfl, hb⟩
              go_wp2_with fail
              go_ret
              exact ⟨by rw [HR.out, ← HU2.out]; unfold signedBits; rw [if_pos rfl, ← HGG.out, ← HY.out]; rfl, W1.trans (hb.mono (by simp))⟩
          · have HU2 := Lib.hid (h3.symm.trans HU.out)
            have hm0 : ((m : Int) == 2 * (P : Int)) = false := by simp; omega
            have hm1 : (m : Int) / P = 0 := Int.ediv_eq_zero_of_lt (by omega) (by omega)
            have hm3 : ((m : Int) == 0) = false := by simp; omega
            have hor := or64 (a := m) (b := G) (by omega) hG64
            obtain ⟨y, hy⟩ : ∃ y : Nat, y = m ||| G := ⟨_, rfl⟩
            rw [← hy] at hor
            have HY := Lib.hid hy
            clear h1 h2 h3 hy hpm hcs0
            cases neg
            · go_wp2_with fail
              go_ret
              exact ⟨by rw [HR.out, ← HU2.out]; rfl, W1⟩
            · go_wp2_with fail
              refine (HS2.out _).mono ?_
              rintro en w' ⟨rfl, hb⟩
              go_wp2_with fail
              go_ret
              exact ⟨by rw [HR.out, ← HU2.out]; unfold signedBits; rw [if_pos rfl, ← HGG.out, ← HY.out]; rfl, W1.trans (hb.mono (by simp))⟩
          · have HU2 := Lib.hid (h3.symm.trans HU.out)
            have hor := or64 (a := TP) (b := G) (by omega) hG64
            obtain ⟨y, hy⟩ : ∃ y : Nat, y = TP ||| G := ⟨_, rfl⟩
            rw [← hy] at hor
            have HY := Lib.hid hy
            by_cases h6 : m = 2 * P
            · rw [if_pos h6] at h2
              have hm9 : ((m : Int) == 2 * (P : Int)) = true := by simp; omega
              have hm0 : (m : Int) / 2 = P := by omega
              clear h1 h6 h3 hy hcs0
              cases neg
              · go_wp2_with fail
                go_ret
                exact ⟨by rw [HR.out, ← HU2.out]; rfl, W1⟩
              · go_wp2_with fail
                refine (HS2.out _).mono ?_
                rintro en w' ⟨rfl, hb⟩
                go_wp2_with fail
                go_ret
                exact ⟨by rw [HR.out, ← HU2.out]; unfold signedBits; rw [if_pos rfl, ← HGG.out, ← HY.out]; rfl, W1.trans (hb.mono (by simp))⟩
            · rw [if_neg h6] at h2
              have hm0 : ((m : Int) == 2 * (P : Int)) = false := by simp; omega
              have hm3 : ((m : Int) == 0) = false := by simp; omega
              have hm1 : (m : Int) / P = 1 := by
                have : m / P = 1 := by rw [Nat.div_eq_iff (by omega)]; omega
                exact_mod_cast this
              clear h1 h6 h3 hy hcs0
              cases neg
              · go_wp2_with fail
                go_ret
                exact ⟨by rw [HR.out, ← HU2.out]; rfl, W1⟩
              · go_wp2_with fail
                refine (HS2.out _).mono ?_
                rintro en w' ⟨rfl, hb⟩
                go_wp2_with fail
                go_ret
                exact ⟨by rw [HR.out, ← HU2.out]; unfold signedBits; rw [if_pos rfl, ← HGG.out, ← HY.out]; rfl, W1.trans (hb.mono (by simp))⟩
          · have HU2 := Lib.hid (h5.symm.trans HU.out)
            have hq : (if m = 2 * P then P else m) % P < P := Nat.mod_lt _ (by omega)
            have hPm : (P : Int) - 1 = ((2 ^ f - 1 : Nat) : Int) := by rw [← HPP.out]; omega
            have band : ∀ z : Nat, z < 2 ^ 64 → bits .and .u64 (z : Int) ((P : Int) - 1) = ((z % P : Nat) : Int) := fun z hz => by
              rw [hPm, and_mask hz (by omega), ← HPP.out]
            have bYP : IntKind.u64.wrap ((Y : Int) * P) = ((Y * P : Nat) : Int) := by rw [← Int.natCast_mul]; exact wrapU _ (by omega)
            have bor := or_disj2 (x := (if m = 2 * P then P else m) % P) (y := Y) (n := f) (by rw [← HPP.out]; exact hq) (by rw [← HPP.out]; omega) (by omega)
            rw [← HPP.out] at bor
            have bY : IntKind.u64.wrap (Y : Int) = Y := wrapU _ (by have := Nat.le_mul_of_pos_right Y a1; omega)
            have hu4 := hu64
            rw [h5] at hu4
            have hor := or64 (a := Y * P + (if m = 2 * P then P else m) % P) (b := G) hu4 hG64
            obtain ⟨y, hy⟩ : ∃ y : Nat, y = (Y * P + (if m = 2 * P then P else m) % P) ||| G := ⟨_, rfl⟩
            rw [← hy] at hor
            have HY := Lib.hid hy
            clear hy h5 hcs0
            by_cases h6 : m = 2 * P
            · rw [if_pos h6] at h2 h3
              simp only [if_pos h6] at bor hor HU2 HY hq
              have hm9 : ((m : Int) == 2 * (P : Int)) = true := by simp; omega
              have hm0 : (m : Int) / 2 = P := by omega
              have band' := band P (by omega)
              rw [h3] at bY bYP
              obtain ⟨YP, hYP⟩ : ∃ YP, YP = Y * P := ⟨_, rfl⟩
              rw [← hYP] at bYP bor hor HU2 HY
              generalize P % P = q at *
              obtain ⟨u', hu'⟩ : ∃ u', u' = YP + q := ⟨_, rfl⟩
              rw [← hu'] at bor hor HU2 HY
              clear h1 h6 band hYP hu' h3 h4 hq hu4 hPm
              cases neg
              · go_wp2_with fail
                go_ret
                exact ⟨by rw [HR.out, ← HU2.out]; rfl, W1⟩
              · go_wp2_with fail
                refine (HS2.out _).mono ?_
                rintro en w' ⟨rfl, hb⟩
                go_wp2_with fail
                go_ret
                exact ⟨by rw [HR.out, ← HU2.out]; unfold signedBits; rw [if_pos rfl, ← HGG.out, ← HY.out]; rfl, W1.trans (hb.mono (by simp))⟩
            · rw [if_neg h6] at h2 h3
              simp only [if_neg h6] at bor hor HU2 HY hq
              have hm0 : ((m : Int) == 2 * (P : Int)) = false := by simp; omega
              have hm3 : ((m : Int) == 0) = false := by simp; omega
              have hm1 : (m : Int) / P = 1 := by
                have : m / P = 1 := by rw [Nat.div_eq_iff (by omega)]; omega
                exact_mod_cast this
              have band' := band m (by omega)
              rw [h3] at bY bYP
              obtain ⟨YP, hYP⟩ : ∃ YP, YP = Y * P := ⟨_, rfl⟩
              rw [← hYP] at bYP bor hor HU2 HY
              generalize m % P = q at *
              obtain ⟨u', hu'⟩ : ∃ u', u' = YP + q := ⟨_, rfl⟩
              rw [← hu'] at bor hor HU2 HY
              clear h1 h6 band hYP hu' h3 h4 hq hu4 hPm
              cases neg
              · go_wp2_with fail
                go_ret
                exact ⟨by rw [HR.out, ← HU2.out]; rfl, W1⟩
              · go_wp2_with fail
                refine (HS2.out _).mono ?_
                rintro en w' ⟨rfl, hb⟩
                go_wp2_with fail
                go_ret
                exact ⟨by rw [HR.out, ← HU2.out]; unfold signedBits; rw [if_pos rfl, ← HGG.out, ← HY.out]; rfl, W1.trans (hb.mono (by simp))⟩

end Go.Proofs.Ytpemchghaddgdaa
