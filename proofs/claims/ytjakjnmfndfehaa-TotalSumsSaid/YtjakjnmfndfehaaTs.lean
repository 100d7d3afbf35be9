/- The document's numbers of 280 digits rounded once: the walk. Condition: digits from 0 to 65535. -/
import Derived.Test.YtjakjnmfndfehaaTr
namespace Go.Pst
open Go Ieee
set_option linter.unusedVariables false
theorem dv_bits_zero {N : Nat} {n : Nat} (hN : N < 2 ^ n) (h : ∀ i, i < n → N / 2 ^ i % 2 = 0) : N = 0 := by
  have h1 := some_iff N n
  refine Decidable.byContradiction fun hne => ?_
  rw [Nat.mod_eq_of_lt hN] at h1
  obtain ⟨i, hi, h2⟩ := h1.2 hne
  have := h i hi
  omega
theorem top_len {N k n : Nat} (hN : N < 2 ^ n) (hk : k < n) (h1 : N / 2 ^ k % 2 = 1) (h : ∀ i, k + 1 ≤ i → i < n → N / 2 ^ i % 2 = 0) : N < 2 ^ (k + 1) ∧ 2 ^ k ≤ N := by
  have hlt : N < 2 ^ (k + 1) := by
    refine Decidable.byContradiction fun hne => ?_
    have hne' : 2 ^ (k + 1) ≤ N := by omega
    have h0 : N ≠ 0 := by have := Nat.two_pow_pos (k + 1); omega
    have hl1 := Nat.log2_self_le h0
    have hl2 := Nat.lt_log2_self (n := N)
    have hl3 : N.log2 < n := (Nat.log2_lt h0).2 hN
    have hl4 : k + 1 ≤ N.log2 := by
      rcases Nat.lt_or_ge N.log2 (k + 1) with h5 | h5
      · have := (Nat.log2_lt h0).1 h5; omega
      · exact h5
    have h6 := h N.log2 hl4 hl3
    have h7 : N / 2 ^ N.log2 = 1 := by
      rw [Nat.pow_succ] at hl2
      exact Nat.div_eq_of_lt_le (by omega) (by omega)
    rw [h7] at h6
    omega
  refine ⟨hlt, ?_⟩
  refine Decidable.byContradiction fun hne => ?_
  rw [Nat.div_eq_of_lt (by omega)] at h1
  omega
theorem rest_step (N i : Nat) : decide (N % 2 ^ (i + 1) ≠ 0) = (decide (N % 2 ^ i ≠ 0) || decide (N / 2 ^ i % 2 = 1)) := by
  have e : N % 2 ^ (i + 1) = N % 2 ^ i + 2 ^ i * (N / 2 ^ i % 2) := Nat.mod_pow_succ
  have hp := Nat.two_pow_pos i
  rw [e, Bool.eq_iff_iff]
  simp only [Bool.or_eq_true, decide_eq_true_eq]
  rcases Nat.mod_two_eq_zero_or_one (N / 2 ^ i) with h | h
  · rw [h]; simp
  · rw [h]; constructor
    · intro _; exact .inr rfl
    · intro _; omega
theorem rne_bitsB (N E : Nat) : rne N (E + 1) = N / 2 ^ (E + 1) + (if N / 2 ^ E % 2 = 1 ∧ (N / 2 ^ (E + 1) % 2 = 1 ∨ decide (N % 2 ^ E ≠ 0) = true) then 1 else 0) := by
  rw [rne_bits]; simp only [decide_eq_true_eq]
end Go.Pst
namespace Go.Proofs.Ytjakjnmfndfehaa
open Go.RowKit Go.Pst
set_option maxRecDepth 20000
set_option linter.unusedSimpArgs false
set_option linter.unusedVariables false

theorem wpList_load_row_g {P : Program} {ops : Array Oper} {rest : List Oper} {o : Oper} {a : Act} {w : World} {Q : Exit → Act → World → Prop} (hw : Region.wanted o (yielded ops a.tmps) = true) (ty : TypeId) (x : Operand) (ho : o.op = .load ty x)
    (g : Nat) (hx : a.eval x = .pointer (some ⟨g, 0, none⟩)) (t : TypeId) (cs : Array Value) (fr : Nat × Nat) (d : TypeDesc) (hg : w.heap[g]? = some (.cells cs t fr))
    (hu : P.underlying ty = some d) (hd : (match d with | .struct _ | .array _ _ => true | _ => false) = true) (hi : (P.info? ty).map (·.size) = some cs.size)
    (h : wpList P ops Q rest (a.put o.dst (.agg cs)) w) : wpList P ops Q (o :: rest) a w := by
  unfold wpList
  rw [if_pos hw]
  exact .inl (wp_load_row ty x ho g hx t cs fr d hg hu hd hi h)



def K48 : Nat := 4480
set_option maxHeartbeats 8000000 in
theorem rounded_any (Y : Nat → Int) (N : Nat) (w : World) (hY : IsDig Y) (hN : dv Y 280 = N) :
    Calls Try.prog 113 #[.agg (bcells Y).toArray] w fun en w' => en = .returned (.float .f64 (rndN 52 11 N (-2200))) ∧ Below w.heap.size w w' := by
  have hlt : N < 2 ^ K48 := by
    have h := dv_lt (Y := Y) K28 hY
    rw [show (65536 : Nat) ^ K28 = 2 ^ K48 by rw [show (65536 : Nat) = 2 ^ 16 from rfl, ← Nat.pow_mul]; exact congrArg (2 ^ ·) (show 16 * K28 = K48 by decide)] at h
    rw [← hN]; exact h
  have HB := Lib.hid fun (j : Nat) (hj : j < 4480) (w : World) => rbit_any Y j w hY hj
  rw [hN] at HB
  have HLT := Lib.hid hlt
  clear hlt hN hY
  obtain ⟨r, hr⟩ : ∃ r, r = rndN 52 11 N (-2200) := ⟨_, rfl⟩
  rw [← hr]
  have HR := Lib.hid hr
  clear hr
  go_enter Try.func113, Try.ntmps113
  go_wp2_with fail
  go_loopw [3] (fun t wr => ∃ k : Nat, t = .int .i64 ((k : Int) - 1) ∧ k ≤ 4480 ∧ (∀ i, k ≤ i → i < 4480 → N / 2 ^ i % 2 = 0) ∧ wr.heap[w.heap.size]? = some (.cells (bcells Y).toArray 88 (0, 0)) ∧ Below w.heap.size w wr ∧ w.heap.size + 1 ≤ wr.heap.size) (fun t _ => (intOf t + 1).toNat)
  case atStart => exact ⟨4480, rfl, by omega, fun i h1 h2 => by omega, heap_alloc_new w _, (Below.refl _ _).alloc (Nat.le_refl _) _, by simp⟩
  case round =>
    obtain ⟨k, rfl, hk, hall, ha, hw, hsz⟩ := hrel
    have HALL := Lib.hid hall; have HA := Lib.hid ha; have BW := Lib.hid hw
    clear hall ha hw
    rcases k with _ | k
    · have HR2 : Hid (0 = r) := Lib.hid (by
        have h0 : N = 0 := dv_bits_zero HLT.out fun i hi => HALL.out i (by omega) hi
        rw [HR.out, h0]; unfold rndN; rw [if_pos rfl])
      have e : ((0 : Nat) : Int) - 1 = -1 := rfl
      rw [e]
      clear e
      go_wp2_with fail
      go_ret
      exact ⟨congrArg (fun x => Ending.returned (Value.float .f64 x)) HR2.out, BW.out⟩
    · have e : ((k + 1 : Nat) : Int) - 1 = (k : Int) := by omega
      rw [e]
      have h0 : (0 : Int) ≤ (k : Int) := by omega
      have HBk := Lib.hid (HB.out k (by omega))
      clear e
      by_cases hb : N / 2 ^ k % 2 = 0
      · have HN2 : Hid (∀ i, k ≤ i → i < 4480 → N / 2 ^ i % 2 = 0) := Lib.hid fun i h1 h2 => by
          by_cases e : i = k
          · rw [e]; exact hb
          · exact HALL.out i (by omega) h2
        rw [hb] at HBk
        clear hb
        go_wp2_with (first
          | (with_reducible refine wpList_load_row rfl 88 _ rfl w.heap.size rfl 88 (bcells Y).toArray (0, 0) _ HA.out Try.underlying88 rfl (info280' _) ?_)
          | (refine wpList_load_row_g (by rfl) 88 _ rfl w.heap.size rfl 88 (bcells Y).toArray (0, 0) _ HA.out Try.underlying88 rfl (info280' _) ?_))
        refine (HBk.out _).mono ?_
        rintro en wn ⟨rfl, hbn⟩
        have zz := BW.out.size
        replace HA := Lib.hid ((hbn.block w.heap.size (by omega)).trans HA.out)
        replace BW := Lib.hid (BW.out.trans (hbn.mono zz))
        replace hsz : w.heap.size + 1 ≤ wn.heap.size := Nat.le_trans hsz hbn.size
        clear hbn zz
        go_wp2_with fail
        go_roundw
        case rel => exact ⟨k, by go_num, by omega, HN2.out, HA.out, BW.out, hsz⟩
        case measure => (simp [intOf] <;> omega)
      · have hb1 : N / 2 ^ k % 2 = 1 := by omega
        obtain ⟨t1, t2⟩ := top_len HLT.out (show k < K48 from by show k < 4480; omega) hb1 HALL.out
        have HT1 := Lib.hid t1; have HT2 := Lib.hid t2
        rw [hb1] at HBk
        have hN0 : N ≠ 0 := by have := Nat.two_pow_pos k; omega
        have hlog : N.log2 = k := log2_is t2 t1
        have hkap : kap 52 11 N (-2200) = max ((k : Int) - 52) 1126 := by
          unfold kap; rw [hlog, show lst 52 11 = -1074 by decide]; omega
        have hfin := scV_rnd hN0 (E := -2200) (by rw [hkap]; omega)
        rw [← HR.out, hkap] at hfin
        clear hb hb1 t1 t2 hN0 hlog hkap
        by_cases hlow : (k : Int) - 52 < 1126
        · obtain ⟨l, hl⟩ : ∃ l : Nat, max ((k : Int) - 52) 1126 = (l : Int) := ⟨1126, by omega⟩
          rw [hl] at hfin
          have hl1 : l ≤ 1126 := by omega
          have hl2 : 1126 ≤ l := by omega
          have hF : Hid (scV (rne N l) (-1074) = r) := Lib.hid (by
            rw [show (-2200 : Int) + (l : Int) = -1074 by omega] at hfin
            exact hfin)
          have hlow' : (k : Int) - 52 + -2200 < -1074 := by omega
          have hlk : k + 1 ≤ l + 53 := by omega
          obtain ⟨E, hE⟩ : ∃ E, l = E + 1 := ⟨l - 1, by omega⟩
          have hE1 : E ≤ 1125 := by omega
          have hE3 : 1125 ≤ E := by omega
          have HE := Lib.hid hE
          clear hfin hlow hE hl
          go_wp2_with (first
            | (with_reducible refine wpList_load_row rfl 88 _ rfl w.heap.size rfl 88 (bcells Y).toArray (0, 0) _ HA.out Try.underlying88 rfl (info280' _) ?_)
            | (refine wpList_load_row_g (by rfl) 88 _ rfl w.heap.size rfl 88 (bcells Y).toArray (0, 0) _ HA.out Try.underlying88 rfl (info280' _) ?_))
          refine (HBk.out _).mono ?_
          rintro en wn ⟨rfl, hbn⟩
          have zz := BW.out.size
          replace HA := Lib.hid ((hbn.block w.heap.size (by omega)).trans HA.out)
          replace BW := Lib.hid (BW.out.trans (hbn.mono zz))
          replace hsz : w.heap.size + 1 ≤ wn.heap.size := Nat.le_trans hsz hbn.size
          clear hbn zz
          clear HBk
          have hq53 : N / 2 ^ l < 9007199254740992 := by
            refine Nat.div_lt_of_lt_mul ?_
            rw [show (9007199254740992 : Nat) = 2 ^ 53 from rfl, ← Nat.pow_add]
            exact Nat.lt_of_lt_of_le HT1.out (Nat.pow_le_pow_right (by omega) (by omega))
          have HQ := Lib.hid hq53
          have HK1 : Hid (N / 2 ^ (k + 1) = 0) := Lib.hid (Nat.div_eq_of_lt HT1.out)
          clear hq53 hlk
          go_wp2_with fail
          go_loopw [5, 6] (fun mv t wr => ∃ j : Nat, t = .int .i64 ((j : Int) - 1) ∧ j ≤ k + 1 ∧ (l ≤ j ∨ j = k + 1) ∧ mv = .int .i64 (N / 2 ^ j : Nat) ∧ wr.heap[w.heap.size]? = some (.cells (bcells Y).toArray 88 (0, 0)) ∧ Below w.heap.size w wr ∧ w.heap.size + 1 ≤ wr.heap.size) (fun _ t _ => (intOf t + 1).toNat)
          case atStart => exact ⟨k + 1, by go_num, Nat.le_refl _, .inr rfl, by rw [HK1.out]; rfl, HA.out, BW.out, hsz⟩
          case round =>
            clear HA BW hsz
            obtain ⟨j, rfl, hj, hjd, rfl, ha, hw, hsz⟩ := hrel
            have HA := Lib.hid ha; have BW := Lib.hid hw
            clear ha hw
            by_cases hc : l < j
            · rcases j with _ | j
              · omega
              have e : ((j + 1 : Nat) : Int) - 1 = (j : Int) := by omega
              rw [e]
              have hge : 1126 ≤ (j : Int) := by omega
              have hj0 : (0 : Int) ≤ (j : Int) := by omega
              have hst := div_shift N j
              have hnb : N / 2 ^ (j + 1) < 9007199254740992 := Nat.lt_of_le_of_lt (Nat.div_le_div_left (Nat.pow_le_pow_right (by omega) (by omega)) (Nat.two_pow_pos _)) HQ.out
              have hbl : N / 2 ^ j % 2 < 2 := Nat.mod_lt _ (by omega)
              have HBj := Lib.hid (HB.out j (by omega))
              obtain ⟨bb, hb⟩ : ∃ b, b = N / 2 ^ j % 2 := ⟨_, rfl⟩
              obtain ⟨n1, hn1⟩ : ∃ n, n = N / 2 ^ (j + 1) := ⟨_, rfl⟩
              rw [← hb] at hst hbl HBj
              rw [← hn1] at hst hnb ⊢
              have HST := Lib.hid hst
              have hbi : (0 : Int) ≤ (bb : Int) ∧ (bb : Int) < 2 := by omega
              have hni : (0 : Int) ≤ (n1 : Int) ∧ (n1 : Int) < 9007199254740992 := by omega
              clear e hb hn1 hst hnb hbl
              go_wp2_with (first
                | (with_reducible refine wpList_load_row rfl 88 _ rfl w.heap.size rfl 88 (bcells Y).toArray (0, 0) _ HA.out Try.underlying88 rfl (info280' _) ?_)
                | (refine wpList_load_row_g (by rfl) 88 _ rfl w.heap.size rfl 88 (bcells Y).toArray (0, 0) _ HA.out Try.underlying88 rfl (info280' _) ?_))
              refine (HBj.out _).mono ?_
              rintro en wn ⟨rfl, hbn⟩
              have zz := BW.out.size
              replace HA := Lib.hid ((hbn.block w.heap.size (by omega)).trans HA.out)
              replace BW := Lib.hid (BW.out.trans (hbn.mono zz))
              replace hsz : w.heap.size + 1 ≤ wn.heap.size := Nat.le_trans hsz hbn.size
              clear hbn zz
              go_wp2_with fail
              go_roundw
              case rel => exact ⟨j, by go_num, by omega, .inl (by omega), by rw [HST.out]; first | rfl | simp, HA.out, BW.out, hsz⟩
              case measure => (simp [intOf] <;> omega)
            · have hlt : (j : Int) - 1 < 1126 := by omega
              have hND : N / 2 ^ j = N / 2 ^ l := by
                rcases hjd with h | h
                · rw [show j = l by omega]
                · subst h
                  have h1 := HK1.out
                  have h2 : N / 2 ^ l ≤ N / 2 ^ (k + 1) := Nat.div_le_div_left (Nat.pow_le_pow_right (by omega) (by omega)) (Nat.two_pow_pos _)
                  rw [h1] at h2
                  rw [h1, Nat.le_zero.1 h2]
              rw [hND]
              clear hND
              obtain ⟨q, hq⟩ : ∃ q, q = N / 2 ^ l := ⟨_, rfl⟩
              rw [← hq]
              have HQQ := Lib.hid hq
              clear hq hc hjd
              go_wp2_with fail
              clear hlt hlow'
              go_loopw [7, 8] (fun rv t wr => ∃ i : Nat, t = .int .i64 i ∧ i ≤ E ∧ rv = .bool (decide (N % 2 ^ i ≠ 0)) ∧ wr.heap[w.heap.size]? = some (.cells (bcells Y).toArray 88 (0, 0)) ∧ Below w.heap.size w wr ∧ w.heap.size + 1 ≤ wr.heap.size) (fun _ t _ => E - (intOf t).toNat)
              case atStart => exact ⟨0, rfl, by omega, by rw [Nat.pow_zero, Nat.mod_one]; rfl, HA.out, BW.out, hsz⟩
              case round =>
                clear HA BW hsz
                obtain ⟨i, rfl, hi, rfl, ha, hw, hsz⟩ := hrel
                have HA := Lib.hid ha; have BW := Lib.hid hw
                clear ha hw
                by_cases hil : i < E
                · have hil' : (i : Int) < 1125 := by omega
                  have hrs := rest_step N i
                  have HBi := Lib.hid (HB.out i (by omega))
                  cases hdc : decide (N % 2 ^ i ≠ 0)
                  · rw [hdc, Bool.false_or] at hrs
                    have HRS := Lib.hid hrs
                    have hbl : N / 2 ^ i % 2 < 2 := Nat.mod_lt _ (by omega)
                    obtain ⟨bb, hb⟩ : ∃ b, b = N / 2 ^ i % 2 := ⟨_, rfl⟩
                    rw [← hb] at HBi HRS hbl
                    clear hrs hdc hb
                    obtain rfl | rfl : bb = 0 ∨ bb = 1 := by omega
                    ·
                      go_wp2_with (first
                        | (with_reducible refine wpList_load_row rfl 88 _ rfl w.heap.size rfl 88 (bcells Y).toArray (0, 0) _ HA.out Try.underlying88 rfl (info280' _) ?_)
                        | (refine wpList_load_row_g (by rfl) 88 _ rfl w.heap.size rfl 88 (bcells Y).toArray (0, 0) _ HA.out Try.underlying88 rfl (info280' _) ?_))
                      refine (HBi.out _).mono ?_
                      rintro en wn ⟨rfl, hbn⟩
                      have zz := BW.out.size
                      replace HA := Lib.hid ((hbn.block w.heap.size (by omega)).trans HA.out)
                      replace BW := Lib.hid (BW.out.trans (hbn.mono zz))
                      replace hsz : w.heap.size + 1 ≤ wn.heap.size := Nat.le_trans hsz hbn.size
                      clear hbn zz
                      go_wp2_with fail
                      go_roundw
                      case rel => exact ⟨i + 1, by go_num, by omega, by rw [HRS.out]; rfl, HA.out, BW.out, hsz⟩
                      case measure => (simp [intOf] <;> omega)
                    ·
                      go_wp2_with (first
                        | (with_reducible refine wpList_load_row rfl 88 _ rfl w.heap.size rfl 88 (bcells Y).toArray (0, 0) _ HA.out Try.underlying88 rfl (info280' _) ?_)
                        | (refine wpList_load_row_g (by rfl) 88 _ rfl w.heap.size rfl 88 (bcells Y).toArray (0, 0) _ HA.out Try.underlying88 rfl (info280' _) ?_))
                      refine (HBi.out _).mono ?_
                      rintro en wn ⟨rfl, hbn⟩
                      have zz := BW.out.size
                      replace HA := Lib.hid ((hbn.block w.heap.size (by omega)).trans HA.out)
                      replace BW := Lib.hid (BW.out.trans (hbn.mono zz))
                      replace hsz : w.heap.size + 1 ≤ wn.heap.size := Nat.le_trans hsz hbn.size
                      clear hbn zz
                      go_wp2_with fail
                      go_roundw
                      case rel => exact ⟨i + 1, by go_num, by omega, by rw [HRS.out]; rfl, HA.out, BW.out, hsz⟩
                      case measure => (simp [intOf] <;> omega)
                  · rw [hdc, Bool.true_or] at hrs
                    have HRS := Lib.hid hrs
                    clear hrs hdc
                    go_wp2_with fail
                    go_roundw
                    case rel => exact ⟨i + 1, by go_num, by omega, by rw [HRS.out], HA.out, BW.out, hsz⟩
                    case measure => (simp [intOf] <;> omega)
                · have hiE : E = i := by omega
                  subst hiE
                  have hil2 : ¬ ((E : Int) < 1125) := by omega
                  have hbe := HB.out E (by omega)
                  have hei : ((E : Nat) : Int) = 1125 := by omega
                  rw [hei] at hil2 hbe ⊢
                  have hrb := rne_bitsB N E
                  rw [← HE.out, ← HQQ.out] at hrb
                  have hq0 : q < 9007199254740992 := by rw [HQQ.out]; exact HQ.out
                  have hbl : N / 2 ^ E % 2 < 2 := Nat.mod_lt _ (by omega)
                  obtain ⟨bb, hb⟩ : ∃ b, b = N / 2 ^ E % 2 := ⟨_, rfl⟩
                  obtain ⟨rr, hrr⟩ : ∃ b, b = decide (N % 2 ^ E ≠ 0) := ⟨_, rfl⟩
                  rw [← hrr]
                  rw [← hb, ← hrr] at hrb
                  rw [← hb] at hbe hbl
                  have HSC0 : rne N l = q → Hid (∀ w : World, Calls Try.prog 128 #[.int .i64 q, .int .i64 (-1074)] w fun en w' => en = .returned (.float .f64 r) ∧ w = w') := fun e => Lib.hid fun w => by
                    have h := scaled_any q (-1074) w (by omega) (by omega)
                    have hf := hF.out
                    rw [e] at hf
                    rw [hf] at h
                    exact h
                  have HSC1 : rne N l = q + 1 → Hid (∀ w : World, Calls Try.prog 128 #[.int .i64 ((q : Int) + 1), .int .i64 (-1074)] w fun en w' => en = .returned (.float .f64 r) ∧ w = w') := fun e => Lib.hid fun w => by
                    have h := scaled_any (q + 1) (-1074) w (by omega) (by omega)
                    have hf := hF.out
                    rw [e] at hf
                    rw [hf] at h
                    exact h
                  have HBE := Lib.hid hbe
                  have hqi : (0 : Int) ≤ (q : Int) ∧ (q : Int) < 9007199254740992 := by omega
                  clear hbe hei hb hrr HE
                  obtain rfl | rfl : bb = 0 ∨ bb = 1 := by omega
                  · replace HSC0 := HSC0 (by rw [hrb]; simp)
                    clear HSC1 hrb
                    go_wp2_with (first
                      | (with_reducible refine wpList_load_row rfl 88 _ rfl w.heap.size rfl 88 (bcells Y).toArray (0, 0) _ HA.out Try.underlying88 rfl (info280' _) ?_)
                      | (refine wpList_load_row_g (by rfl) 88 _ rfl w.heap.size rfl 88 (bcells Y).toArray (0, 0) _ HA.out Try.underlying88 rfl (info280' _) ?_))
                    refine (HBE.out _).mono ?_
                    rintro en wn ⟨rfl, hbn⟩
                    have zz := BW.out.size
                    replace HA := Lib.hid ((hbn.block w.heap.size (by omega)).trans HA.out)
                    replace BW := Lib.hid (BW.out.trans (hbn.mono zz))
                    replace hsz : w.heap.size + 1 ≤ wn.heap.size := Nat.le_trans hsz hbn.size
                    clear hbn zz
                    go_wp2_with fail
                    refine (HSC0.out _).mono ?_
                    rintro en wn ⟨rfl, rfl⟩
                    go_wp2_with fail
                    go_ret
                    exact ⟨rfl, BW.out⟩
                  · cases rr
                    · rcases Nat.mod_two_eq_zero_or_one q with hm | hm
                      · replace HSC0 := HSC0 (by rw [hrb, hm]; simp)
                        have hm1 : (q : Int) % 2 = 0 := by omega
                        have hm2 : (q : Int).tmod 2 = 0 := by rw [Int.tmod_eq_emod_of_nonneg (by omega)]; omega
                        clear HSC1 hrb hm
                        go_wp2_with (first
                          | (with_reducible refine wpList_load_row rfl 88 _ rfl w.heap.size rfl 88 (bcells Y).toArray (0, 0) _ HA.out Try.underlying88 rfl (info280' _) ?_)
                          | (refine wpList_load_row_g (by rfl) 88 _ rfl w.heap.size rfl 88 (bcells Y).toArray (0, 0) _ HA.out Try.underlying88 rfl (info280' _) ?_))
                        refine (HBE.out _).mono ?_
                        rintro en wn ⟨rfl, hbn⟩
                        have zz := BW.out.size
                        replace HA := Lib.hid ((hbn.block w.heap.size (by omega)).trans HA.out)
                        replace BW := Lib.hid (BW.out.trans (hbn.mono zz))
                        replace hsz : w.heap.size + 1 ≤ wn.heap.size := Nat.le_trans hsz hbn.size
                        clear hbn zz
                        go_wp2_with fail
                        refine (HSC0.out _).mono ?_
                        rintro en wn ⟨rfl, rfl⟩
                        go_wp2_with fail
                        go_ret
                        exact ⟨rfl, BW.out⟩
                      · replace HSC1 := HSC1 (by rw [hrb, hm]; simp)
                        have hm1 : (q : Int) % 2 = 1 := by omega
                        have hm2 : (q : Int).tmod 2 = 1 := by rw [Int.tmod_eq_emod_of_nonneg (by omega)]; omega
                        clear HSC0 hrb hm
                        go_wp2_with (first
                          | (with_reducible refine wpList_load_row rfl 88 _ rfl w.heap.size rfl 88 (bcells Y).toArray (0, 0) _ HA.out Try.underlying88 rfl (info280' _) ?_)
                          | (refine wpList_load_row_g (by rfl) 88 _ rfl w.heap.size rfl 88 (bcells Y).toArray (0, 0) _ HA.out Try.underlying88 rfl (info280' _) ?_))
                        refine (HBE.out _).mono ?_
                        rintro en wn ⟨rfl, hbn⟩
                        have zz := BW.out.size
                        replace HA := Lib.hid ((hbn.block w.heap.size (by omega)).trans HA.out)
                        replace BW := Lib.hid (BW.out.trans (hbn.mono zz))
                        replace hsz : w.heap.size + 1 ≤ wn.heap.size := Nat.le_trans hsz hbn.size
                        clear hbn zz
                        go_wp2_with fail
                        refine (HSC1.out _).mono ?_
                        rintro en wn ⟨rfl, rfl⟩
                        go_wp2_with fail
                        go_ret
                        exact ⟨rfl, BW.out⟩
                    · replace HSC1 := HSC1 (by rw [hrb]; simp)
                      clear HSC0 hrb
                      go_wp2_with (first
                        | (with_reducible refine wpList_load_row rfl 88 _ rfl w.heap.size rfl 88 (bcells Y).toArray (0, 0) _ HA.out Try.underlying88 rfl (info280' _) ?_)
                        | (refine wpList_load_row_g (by rfl) 88 _ rfl w.heap.size rfl 88 (bcells Y).toArray (0, 0) _ HA.out Try.underlying88 rfl (info280' _) ?_))
                      refine (HBE.out _).mono ?_
                      rintro en wn ⟨rfl, hbn⟩
                      have zz := BW.out.size
                      replace HA := Lib.hid ((hbn.block w.heap.size (by omega)).trans HA.out)
                      replace BW := Lib.hid (BW.out.trans (hbn.mono zz))
                      replace hsz : w.heap.size + 1 ≤ wn.heap.size := Nat.le_trans hsz hbn.size
                      clear hbn zz
                      go_wp2_with fail
                      refine (HSC1.out _).mono ?_
                      rintro en wn ⟨rfl, rfl⟩
                      go_wp2_with fail
                      go_ret
                      exact ⟨rfl, BW.out⟩
        · obtain ⟨l, hl⟩ : ∃ l : Nat, (k : Int) - 52 = (l : Int) := ⟨k - 52, by omega⟩
          have hF : Hid (scV (rne N l) ((l : Int) + -2200) = r) := Lib.hid (by
            rw [show max ((k : Int) - 52) 1126 = (l : Int) by omega] at hfin
            rw [show (-2200 : Int) + (l : Int) = (l : Int) + -2200 by omega] at hfin
            exact hfin)
          have hlow' : ¬ (l : Int) + -2200 < -1074 := by omega
          have hlk : k + 1 ≤ l + 53 := by omega
          obtain ⟨E, hE⟩ : ∃ E, l = E + 1 := ⟨l - 1, by omega⟩
          have hl26 : (1126 : Int) ≤ (l : Int) := by omega
          have hE2 : (l : Int) - 1 = (E : Int) := by omega
          have HE := Lib.hid hE
          clear hfin hlow hE
          go_wp2_with (first
            | (with_reducible refine wpList_load_row rfl 88 _ rfl w.heap.size rfl 88 (bcells Y).toArray (0, 0) _ HA.out Try.underlying88 rfl (info280' _) ?_)
            | (refine wpList_load_row_g (by rfl) 88 _ rfl w.heap.size rfl 88 (bcells Y).toArray (0, 0) _ HA.out Try.underlying88 rfl (info280' _) ?_))
          refine (HBk.out _).mono ?_
          rintro en wn ⟨rfl, hbn⟩
          have zz := BW.out.size
          replace HA := Lib.hid ((hbn.block w.heap.size (by omega)).trans HA.out)
          replace BW := Lib.hid (BW.out.trans (hbn.mono zz))
          replace hsz : w.heap.size + 1 ≤ wn.heap.size := Nat.le_trans hsz hbn.size
          clear hbn zz
          clear HBk
          have hq53 : N / 2 ^ l < 9007199254740992 := by
            refine Nat.div_lt_of_lt_mul ?_
            rw [show (9007199254740992 : Nat) = 2 ^ 53 from rfl, ← Nat.pow_add]
            exact Nat.lt_of_lt_of_le HT1.out (Nat.pow_le_pow_right (by omega) (by omega))
          have HQ := Lib.hid hq53
          have HK1 : Hid (N / 2 ^ (k + 1) = 0) := Lib.hid (Nat.div_eq_of_lt HT1.out)
          clear hq53 hlk
          go_wp2_with fail
          go_loopw [5, 6] (fun mv t wr => ∃ j : Nat, t = .int .i64 ((j : Int) - 1) ∧ j ≤ k + 1 ∧ (l ≤ j ∨ j = k + 1) ∧ mv = .int .i64 (N / 2 ^ j : Nat) ∧ wr.heap[w.heap.size]? = some (.cells (bcells Y).toArray 88 (0, 0)) ∧ Below w.heap.size w wr ∧ w.heap.size + 1 ≤ wr.heap.size) (fun _ t _ => (intOf t + 1).toNat)
          case atStart => exact ⟨k + 1, by go_num, Nat.le_refl _, .inr rfl, by rw [HK1.out]; rfl, HA.out, BW.out, hsz⟩
          case round =>
            clear HA BW hsz
            obtain ⟨j, rfl, hj, hjd, rfl, ha, hw, hsz⟩ := hrel
            have HA := Lib.hid ha; have BW := Lib.hid hw
            clear ha hw
            by_cases hc : l < j
            · rcases j with _ | j
              · omega
              have e : ((j + 1 : Nat) : Int) - 1 = (j : Int) := by omega
              rw [e]
              have hge : (l : Int) ≤ (j : Int) := by omega
              have hj0 : (0 : Int) ≤ (j : Int) := by omega
              have hst := div_shift N j
              have hnb : N / 2 ^ (j + 1) < 9007199254740992 := Nat.lt_of_le_of_lt (Nat.div_le_div_left (Nat.pow_le_pow_right (by omega) (by omega)) (Nat.two_pow_pos _)) HQ.out
              have hbl : N / 2 ^ j % 2 < 2 := Nat.mod_lt _ (by omega)
              have HBj := Lib.hid (HB.out j (by omega))
              obtain ⟨bb, hb⟩ : ∃ b, b = N / 2 ^ j % 2 := ⟨_, rfl⟩
              obtain ⟨n1, hn1⟩ : ∃ n, n = N / 2 ^ (j + 1) := ⟨_, rfl⟩
              rw [← hb] at hst hbl HBj
              rw [← hn1] at hst hnb ⊢
              have HST := Lib.hid hst
              have hbi : (0 : Int) ≤ (bb : Int) ∧ (bb : Int) < 2 := by omega
              have hni : (0 : Int) ≤ (n1 : Int) ∧ (n1 : Int) < 9007199254740992 := by omega
              clear e hb hn1 hst hnb hbl
              go_wp2_with (first
                | (with_reducible refine wpList_load_row rfl 88 _ rfl w.heap.size rfl 88 (bcells Y).toArray (0, 0) _ HA.out Try.underlying88 rfl (info280' _) ?_)
                | (refine wpList_load_row_g (by rfl) 88 _ rfl w.heap.size rfl 88 (bcells Y).toArray (0, 0) _ HA.out Try.underlying88 rfl (info280' _) ?_))
              refine (HBj.out _).mono ?_
              rintro en wn ⟨rfl, hbn⟩
              have zz := BW.out.size
              replace HA := Lib.hid ((hbn.block w.heap.size (by omega)).trans HA.out)
              replace BW := Lib.hid (BW.out.trans (hbn.mono zz))
              replace hsz : w.heap.size + 1 ≤ wn.heap.size := Nat.le_trans hsz hbn.size
              clear hbn zz
              go_wp2_with fail
              go_roundw
              case rel => exact ⟨j, by go_num, by omega, .inl (by omega), by rw [HST.out]; first | rfl | simp, HA.out, BW.out, hsz⟩
              case measure => (simp [intOf] <;> omega)
            · have hlt : (j : Int) - 1 < (l : Int) := by omega
              have hND : N / 2 ^ j = N / 2 ^ l := by
                rcases hjd with h | h
                · rw [show j = l by omega]
                · subst h
                  have h1 := HK1.out
                  have h2 : N / 2 ^ l ≤ N / 2 ^ (k + 1) := Nat.div_le_div_left (Nat.pow_le_pow_right (by omega) (by omega)) (Nat.two_pow_pos _)
                  rw [h1] at h2
                  rw [h1, Nat.le_zero.1 h2]
              rw [hND]
              clear hND
              obtain ⟨q, hq⟩ : ∃ q, q = N / 2 ^ l := ⟨_, rfl⟩
              rw [← hq]
              have HQQ := Lib.hid hq
              clear hq hc hjd
              go_wp2_with fail
              clear hlt hlow'
              go_loopw [7, 8] (fun rv t wr => ∃ i : Nat, t = .int .i64 i ∧ i ≤ E ∧ rv = .bool (decide (N % 2 ^ i ≠ 0)) ∧ wr.heap[w.heap.size]? = some (.cells (bcells Y).toArray 88 (0, 0)) ∧ Below w.heap.size w wr ∧ w.heap.size + 1 ≤ wr.heap.size) (fun _ t _ => E - (intOf t).toNat)
              case atStart => exact ⟨0, rfl, by omega, by rw [Nat.pow_zero, Nat.mod_one]; rfl, HA.out, BW.out, hsz⟩
              case round =>
                clear HA BW hsz
                obtain ⟨i, rfl, hi, rfl, ha, hw, hsz⟩ := hrel
                have HA := Lib.hid ha; have BW := Lib.hid hw
                clear ha hw
                by_cases hil : i < E
                · have hil' : (i : Int) < (E : Int) := by omega
                  have hrs := rest_step N i
                  have HBi := Lib.hid (HB.out i (by omega))
                  cases hdc : decide (N % 2 ^ i ≠ 0)
                  · rw [hdc, Bool.false_or] at hrs
                    have HRS := Lib.hid hrs
                    have hbl : N / 2 ^ i % 2 < 2 := Nat.mod_lt _ (by omega)
                    obtain ⟨bb, hb⟩ : ∃ b, b = N / 2 ^ i % 2 := ⟨_, rfl⟩
                    rw [← hb] at HBi HRS hbl
                    clear hrs hdc hb
                    obtain rfl | rfl : bb = 0 ∨ bb = 1 := by omega
                    ·
                      go_wp2_with (first
                        | (with_reducible refine wpList_load_row rfl 88 _ rfl w.heap.size rfl 88 (bcells Y).toArray (0, 0) _ HA.out Try.underlying88 rfl (info280' _) ?_)
                        | (refine wpList_load_row_g (by rfl) 88 _ rfl w.heap.size rfl 88 (bcells Y).toArray (0, 0) _ HA.out Try.underlying88 rfl (info280' _) ?_))
                      refine (HBi.out _).mono ?_
                      rintro en wn ⟨rfl, hbn⟩
                      have zz := BW.out.size
                      replace HA := Lib.hid ((hbn.block w.heap.size (by omega)).trans HA.out)
                      replace BW := Lib.hid (BW.out.trans (hbn.mono zz))
                      replace hsz : w.heap.size + 1 ≤ wn.heap.size := Nat.le_trans hsz hbn.size
                      clear hbn zz
                      go_wp2_with fail
                      go_roundw
                      case rel => exact ⟨i + 1, by go_num, by omega, by rw [HRS.out]; rfl, HA.out, BW.out, hsz⟩
                      case measure => (simp [intOf] <;> omega)
                    ·
                      go_wp2_with (first
                        | (with_reducible refine wpList_load_row rfl 88 _ rfl w.heap.size rfl 88 (bcells Y).toArray (0, 0) _ HA.out Try.underlying88 rfl (info280' _) ?_)
                        | (refine wpList_load_row_g (by rfl) 88 _ rfl w.heap.size rfl 88 (bcells Y).toArray (0, 0) _ HA.out Try.underlying88 rfl (info280' _) ?_))
                      refine (HBi.out _).mono ?_
                      rintro en wn ⟨rfl, hbn⟩
                      have zz := BW.out.size
                      replace HA := Lib.hid ((hbn.block w.heap.size (by omega)).trans HA.out)
                      replace BW := Lib.hid (BW.out.trans (hbn.mono zz))
                      replace hsz : w.heap.size + 1 ≤ wn.heap.size := Nat.le_trans hsz hbn.size
                      clear hbn zz
                      go_wp2_with fail
                      go_roundw
                      case rel => exact ⟨i + 1, by go_num, by omega, by rw [HRS.out]; rfl, HA.out, BW.out, hsz⟩
                      case measure => (simp [intOf] <;> omega)
                  · rw [hdc, Bool.true_or] at hrs
                    have HRS := Lib.hid hrs
                    clear hrs hdc
                    go_wp2_with fail
                    go_roundw
                    case rel => exact ⟨i + 1, by go_num, by omega, by rw [HRS.out], HA.out, BW.out, hsz⟩
                    case measure => (simp [intOf] <;> omega)
                · have hiE : E = i := by omega
                  subst hiE
                  have hil2 : ¬ ((E : Int) < (E : Int)) := by omega
                  have hbe := HB.out E (by omega)
                  have hei : ((E : Nat) : Int) = (E : Int) := by omega
                  rw [hei] at hil2 hbe ⊢
                  have hrb := rne_bitsB N E
                  rw [← HE.out, ← HQQ.out] at hrb
                  have hq0 : q < 9007199254740992 := by rw [HQQ.out]; exact HQ.out
                  have hbl : N / 2 ^ E % 2 < 2 := Nat.mod_lt _ (by omega)
                  obtain ⟨bb, hb⟩ : ∃ b, b = N / 2 ^ E % 2 := ⟨_, rfl⟩
                  obtain ⟨rr, hrr⟩ : ∃ b, b = decide (N % 2 ^ E ≠ 0) := ⟨_, rfl⟩
                  rw [← hrr]
                  rw [← hb, ← hrr] at hrb
                  rw [← hb] at hbe hbl
                  have HSC0 : rne N l = q → Hid (∀ w : World, Calls Try.prog 128 #[.int .i64 q, .int .i64 ((l : Int) + -2200)] w fun en w' => en = .returned (.float .f64 r) ∧ w = w') := fun e => Lib.hid fun w => by
                    have h := scaled_any q ((l : Int) + -2200) w (by omega) (by omega)
                    have hf := hF.out
                    rw [e] at hf
                    rw [hf] at h
                    exact h
                  have HSC1 : rne N l = q + 1 → Hid (∀ w : World, Calls Try.prog 128 #[.int .i64 ((q : Int) + 1), .int .i64 ((l : Int) + -2200)] w fun en w' => en = .returned (.float .f64 r) ∧ w = w') := fun e => Lib.hid fun w => by
                    have h := scaled_any (q + 1) ((l : Int) + -2200) w (by omega) (by omega)
                    have hf := hF.out
                    rw [e] at hf
                    rw [hf] at h
                    exact h
                  have HBE := Lib.hid hbe
                  have hqi : (0 : Int) ≤ (q : Int) ∧ (q : Int) < 9007199254740992 := by omega
                  clear hbe hei hb hrr HE
                  obtain rfl | rfl : bb = 0 ∨ bb = 1 := by omega
                  · replace HSC0 := HSC0 (by rw [hrb]; simp)
                    clear HSC1 hrb
                    go_wp2_with (first
                      | (with_reducible refine wpList_load_row rfl 88 _ rfl w.heap.size rfl 88 (bcells Y).toArray (0, 0) _ HA.out Try.underlying88 rfl (info280' _) ?_)
                      | (refine wpList_load_row_g (by rfl) 88 _ rfl w.heap.size rfl 88 (bcells Y).toArray (0, 0) _ HA.out Try.underlying88 rfl (info280' _) ?_))
                    refine (HBE.out _).mono ?_
                    rintro en wn ⟨rfl, hbn⟩
                    have zz := BW.out.size
                    replace HA := Lib.hid ((hbn.block w.heap.size (by omega)).trans HA.out)
                    replace BW := Lib.hid (BW.out.trans (hbn.mono zz))
                    replace hsz : w.heap.size + 1 ≤ wn.heap.size := Nat.le_trans hsz hbn.size
                    clear hbn zz
                    go_wp2_with fail
                    refine (HSC0.out _).mono ?_
                    rintro en wn ⟨rfl, rfl⟩
                    go_wp2_with fail
                    go_ret
                    exact ⟨rfl, BW.out⟩
                  · cases rr
                    · rcases Nat.mod_two_eq_zero_or_one q with hm | hm
                      · replace HSC0 := HSC0 (by rw [hrb, hm]; simp)
                        have hm1 : (q : Int) % 2 = 0 := by omega
                        have hm2 : (q : Int).tmod 2 = 0 := by rw [Int.tmod_eq_emod_of_nonneg (by omega)]; omega
                        clear HSC1 hrb hm
                        go_wp2_with (first
                          | (with_reducible refine wpList_load_row rfl 88 _ rfl w.heap.size rfl 88 (bcells Y).toArray (0, 0) _ HA.out Try.underlying88 rfl (info280' _) ?_)
                          | (refine wpList_load_row_g (by rfl) 88 _ rfl w.heap.size rfl 88 (bcells Y).toArray (0, 0) _ HA.out Try.underlying88 rfl (info280' _) ?_))
                        refine (HBE.out _).mono ?_
                        rintro en wn ⟨rfl, hbn⟩
                        have zz := BW.out.size
                        replace HA := Lib.hid ((hbn.block w.heap.size (by omega)).trans HA.out)
                        replace BW := Lib.hid (BW.out.trans (hbn.mono zz))
                        replace hsz : w.heap.size + 1 ≤ wn.heap.size := Nat.le_trans hsz hbn.size
                        clear hbn zz
                        go_wp2_with fail
                        refine (HSC0.out _).mono ?_
                        rintro en wn ⟨rfl, rfl⟩
                        go_wp2_with fail
                        go_ret
                        exact ⟨rfl, BW.out⟩
                      · replace HSC1 := HSC1 (by rw [hrb, hm]; simp)
                        have hm1 : (q : Int) % 2 = 1 := by omega
                        have hm2 : (q : Int).tmod 2 = 1 := by rw [Int.tmod_eq_emod_of_nonneg (by omega)]; omega
                        clear HSC0 hrb hm
                        go_wp2_with (first
                          | (with_reducible refine wpList_load_row rfl 88 _ rfl w.heap.size rfl 88 (bcells Y).toArray (0, 0) _ HA.out Try.underlying88 rfl (info280' _) ?_)
                          | (refine wpList_load_row_g (by rfl) 88 _ rfl w.heap.size rfl 88 (bcells Y).toArray (0, 0) _ HA.out Try.underlying88 rfl (info280' _) ?_))
                        refine (HBE.out _).mono ?_
                        rintro en wn ⟨rfl, hbn⟩
                        have zz := BW.out.size
                        replace HA := Lib.hid ((hbn.block w.heap.size (by omega)).trans HA.out)
                        replace BW := Lib.hid (BW.out.trans (hbn.mono zz))
                        replace hsz : w.heap.size + 1 ≤ wn.heap.size := Nat.le_trans hsz hbn.size
                        clear hbn zz
                        go_wp2_with fail
                        refine (HSC1.out _).mono ?_
                        rintro en wn ⟨rfl, rfl⟩
                        go_wp2_with fail
                        go_ret
                        exact ⟨rfl, BW.out⟩
                    · replace HSC1 := HSC1 (by rw [hrb]; simp)
                      clear HSC0 hrb
                      go_wp2_with (first
                        | (with_reducible refine wpList_load_row rfl 88 _ rfl w.heap.size rfl 88 (bcells Y).toArray (0, 0) _ HA.out Try.underlying88 rfl (info280' _) ?_)
                        | (refine wpList_load_row_g (by rfl) 88 _ rfl w.heap.size rfl 88 (bcells Y).toArray (0, 0) _ HA.out Try.underlying88 rfl (info280' _) ?_))
                      refine (HBE.out _).mono ?_
                      rintro en wn ⟨rfl, hbn⟩
                      have zz := BW.out.size
                      replace HA := Lib.hid ((hbn.block w.heap.size (by omega)).trans HA.out)
                      replace BW := Lib.hid (BW.out.trans (hbn.mono zz))
                      replace hsz : w.heap.size + 1 ≤ wn.heap.size := Nat.le_trans hsz hbn.size
                      clear hbn zz
                      go_wp2_with fail
                      refine (HSC1.out _).mono ?_
                      rintro en wn ⟨rfl, rfl⟩
                      go_wp2_with fail
                      go_ret
                      exact ⟨rfl, BW.out⟩
end Go.Proofs.Ytjakjnmfndfehaa
