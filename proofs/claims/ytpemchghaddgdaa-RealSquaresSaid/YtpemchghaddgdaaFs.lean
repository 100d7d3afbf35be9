/- Remainder, here and in the document: one answer. Condition: the bits fit. -/
import Derived.Test.YtpemchghaddgdaaFr
namespace Go.Proofs.Ytpemchghaddgdaa
open Go.RowKit Go.Pst
set_option maxRecDepth 100000
set_option linter.unusedSimpArgs false
set_option linter.unusedVariables false


/-- What the kinds of both say. -/
structure Kinds (pk qk : Int) (na nb ia ib za zb : Bool) : Prop where
  p4 : (pk == 4) = na
  p3 : (pk == 3) = ia
  p0 : (pk == 0) = za
  q4 : (qk == 4) = nb
  q3 : (qk == 3) = ib
  q0 : (qk == 0) = zb

set_option maxHeartbeats 2000000 in
theorem rrem_easy (a b : Nat) (pk pm px pl qk qm qx ql : Int) (pn pq qn qq : Bool) (na nb ia ib za zb : Bool) (w : World)
    (hz : ∀ w, Calls Try.prog 21 #[] w fun en w' => en = .returned (.agg #[.int .i64 52, .int .i64 2047, .int .i64 1023]) ∧ Below w.heap.size w w')
    (hp : ∀ w, Calls Try.prog 31 #[.int .u64 a, .agg #[.int .i64 52, .int .i64 2047, .int .i64 1023]] w fun en w' => en = .returned (.agg #[.int .i64 pk, .bool pn, .int .u64 pm, .int .i64 px, .bool pq, .int .u64 pl]) ∧ Below w.heap.size w w')
    (hq : ∀ w, Calls Try.prog 31 #[.int .u64 b, .agg #[.int .i64 52, .int .i64 2047, .int .i64 1023]] w fun en w' => en = .returned (.agg #[.int .i64 qk, .bool qn, .int .u64 qm, .int .i64 qx, .bool qq, .int .u64 ql]) ∧ Below w.heap.size w w')
    (hk : Kinds pk qk na nb ia ib za zb) :
    ((na || nb || ia || zb) = true → Calls Try.prog 74 #[.int .u64 a, .int .u64 b] w (U64Post NN0 w)) ∧
    ((na || nb || ia || zb) = false → (ib || za) = true → Calls Try.prog 74 #[.int .u64 a, .int .u64 b] w (U64Post a w)) := by
  have HZ := Lib.hid hz; have HP := Lib.hid hp; have HQ := Lib.hid hq
  have HN := Lib.hid fun w => rnone_any w
  obtain ⟨p4, p3, p0, q4, q3, q0⟩ := hk
  clear hz hp hq
  constructor
  · intro h
    cases na
    · cases nb
      · cases ia
        · cases zb
          · simp at h
          · clear h p0 q3
            go_enter Try.func74, Try.ntmps74
            go_wp2_with fail
            have O := Reg.Own.nil w
            have zz := O.rules
            have HO := Lib.hid O; clear O
            go_wp2_with fail
            refine (HZ.out _).mono ?_
            rintro en wn ⟨rfl, hbn⟩
            have O := HO.out.keep hbn
            clear HO zz
            have zz := O.rules
            have HO := Lib.hid O; clear O
            clear hbn
            go_wp2_with fail
            refine (HP.out _).mono ?_
            rintro en wn ⟨rfl, hbn⟩
            have O := HO.out.keep hbn
            clear HO zz
            have zz := O.rules
            have HO := Lib.hid O; clear O
            clear hbn
            go_wp2_with fail
            refine (HZ.out _).mono ?_
            rintro en wn ⟨rfl, hbn⟩
            have O := HO.out.keep hbn
            clear HO zz
            have zz := O.rules
            have HO := Lib.hid O; clear O
            clear hbn
            go_wp2_with fail
            refine (HQ.out _).mono ?_
            rintro en wn ⟨rfl, hbn⟩
            have O := HO.out.keep hbn
            clear HO zz
            have zz := O.rules
            have HO := Lib.hid O; clear O
            clear hbn
            go_wp2_with fail
            refine (HN.out _).mono ?_
            rintro en wn ⟨rfl, rfl⟩
            go_wp2_with fail
            go_ret
            exact ⟨rfl, (HO.out.below.alloc HO.out.size _).alloc (by simp; have := HO.out.size; omega) _⟩
        · clear h p0 q3 q0
          go_enter Try.func74, Try.ntmps74
          go_wp2_with fail
          have O := Reg.Own.nil w
          have zz := O.rules
          have HO := Lib.hid O; clear O
          go_wp2_with fail
          refine (HZ.out _).mono ?_
          rintro en wn ⟨rfl, hbn⟩
          have O := HO.out.keep hbn
          clear HO zz
          have zz := O.rules
          have HO := Lib.hid O; clear O
          clear hbn
          go_wp2_with fail
          refine (HP.out _).mono ?_
          rintro en wn ⟨rfl, hbn⟩
          have O := HO.out.keep hbn
          clear HO zz
          have zz := O.rules
          have HO := Lib.hid O; clear O
          clear hbn
          go_wp2_with fail
          refine (HZ.out _).mono ?_
          rintro en wn ⟨rfl, hbn⟩
          have O := HO.out.keep hbn
          clear HO zz
          have zz := O.rules
          have HO := Lib.hid O; clear O
          clear hbn
          go_wp2_with fail
          refine (HQ.out _).mono ?_
          rintro en wn ⟨rfl, hbn⟩
          have O := HO.out.keep hbn
          clear HO zz
          have zz := O.rules
          have HO := Lib.hid O; clear O
          clear hbn
          go_wp2_with fail
          refine (HN.out _).mono ?_
          rintro en wn ⟨rfl, rfl⟩
          go_wp2_with fail
          go_ret
          exact ⟨rfl, (HO.out.below.alloc HO.out.size _).alloc (by simp; have := HO.out.size; omega) _⟩
      · clear h p0 q3 q0 p3
        go_enter Try.func74, Try.ntmps74
        go_wp2_with fail
        have O := Reg.Own.nil w
        have zz := O.rules
        have HO := Lib.hid O; clear O
        go_wp2_with fail
        refine (HZ.out _).mono ?_
        rintro en wn ⟨rfl, hbn⟩
        have O := HO.out.keep hbn
        clear HO zz
        have zz := O.rules
        have HO := Lib.hid O; clear O
        clear hbn
        go_wp2_with fail
        refine (HP.out _).mono ?_
        rintro en wn ⟨rfl, hbn⟩
        have O := HO.out.keep hbn
        clear HO zz
        have zz := O.rules
        have HO := Lib.hid O; clear O
        clear hbn
        go_wp2_with fail
        refine (HZ.out _).mono ?_
        rintro en wn ⟨rfl, hbn⟩
        have O := HO.out.keep hbn
        clear HO zz
        have zz := O.rules
        have HO := Lib.hid O; clear O
        clear hbn
        go_wp2_with fail
        refine (HQ.out _).mono ?_
        rintro en wn ⟨rfl, hbn⟩
        have O := HO.out.keep hbn
        clear HO zz
        have zz := O.rules
        have HO := Lib.hid O; clear O
        clear hbn
        go_wp2_with fail
        refine (HN.out _).mono ?_
        rintro en wn ⟨rfl, rfl⟩
        go_wp2_with fail
        go_ret
        exact ⟨rfl, (HO.out.below.alloc HO.out.size _).alloc (by simp; have := HO.out.size; omega) _⟩
    · clear h p0 q3 q0 p3 q4
      go_enter Try.func74, Try.ntmps74
      go_wp2_with fail
      have O := Reg.Own.nil w
      have zz := O.rules
      have HO := Lib.hid O; clear O
      go_wp2_with fail
      refine (HZ.out _).mono ?_
      rintro en wn ⟨rfl, hbn⟩
      have O := HO.out.keep hbn
      clear HO zz
      have zz := O.rules
      have HO := Lib.hid O; clear O
      clear hbn
      go_wp2_with fail
      refine (HP.out _).mono ?_
      rintro en wn ⟨rfl, hbn⟩
      have O := HO.out.keep hbn
      clear HO zz
      have zz := O.rules
      have HO := Lib.hid O; clear O
      clear hbn
      go_wp2_with fail
      refine (HZ.out _).mono ?_
      rintro en wn ⟨rfl, hbn⟩
      have O := HO.out.keep hbn
      clear HO zz
      have zz := O.rules
      have HO := Lib.hid O; clear O
      clear hbn
      go_wp2_with fail
      refine (HQ.out _).mono ?_
      rintro en wn ⟨rfl, hbn⟩
      have O := HO.out.keep hbn
      clear HO zz
      have zz := O.rules
      have HO := Lib.hid O; clear O
      clear hbn
      go_wp2_with fail
      refine (HN.out _).mono ?_
      rintro en wn ⟨rfl, rfl⟩
      go_wp2_with fail
      go_ret
      exact ⟨rfl, (HO.out.below.alloc HO.out.size _).alloc (by simp; have := HO.out.size; omega) _⟩
  · intro h h2
    simp only [Bool.or_eq_false_iff] at h
    obtain ⟨⟨⟨rfl, rfl⟩, rfl⟩, rfl⟩ := h
    cases ib
    · cases za
      · simp at h2
      · clear h2
        go_enter Try.func74, Try.ntmps74
        go_wp2_with fail
        have O := Reg.Own.nil w
        have zz := O.rules
        have HO := Lib.hid O; clear O
        go_wp2_with fail
        refine (HZ.out _).mono ?_
        rintro en wn ⟨rfl, hbn⟩
        have O := HO.out.keep hbn
        clear HO zz
        have zz := O.rules
        have HO := Lib.hid O; clear O
        clear hbn
        go_wp2_with fail
        refine (HP.out _).mono ?_
        rintro en wn ⟨rfl, hbn⟩
        have O := HO.out.keep hbn
        clear HO zz
        have zz := O.rules
        have HO := Lib.hid O; clear O
        clear hbn
        go_wp2_with fail
        refine (HZ.out _).mono ?_
        rintro en wn ⟨rfl, hbn⟩
        have O := HO.out.keep hbn
        clear HO zz
        have zz := O.rules
        have HO := Lib.hid O; clear O
        clear hbn
        go_wp2_with fail
        refine (HQ.out _).mono ?_
        rintro en wn ⟨rfl, hbn⟩
        have O := HO.out.keep hbn
        clear HO zz
        have zz := O.rules
        have HO := Lib.hid O; clear O
        clear hbn
        go_wp2_with fail
        go_ret
        exact ⟨rfl, (HO.out.below.alloc HO.out.size _).alloc (by simp; have := HO.out.size; omega) _⟩
    · clear h2 p0
      go_enter Try.func74, Try.ntmps74
      go_wp2_with fail
      have O := Reg.Own.nil w
      have zz := O.rules
      have HO := Lib.hid O; clear O
      go_wp2_with fail
      refine (HZ.out _).mono ?_
      rintro en wn ⟨rfl, hbn⟩
      have O := HO.out.keep hbn
      clear HO zz
      have zz := O.rules
      have HO := Lib.hid O; clear O
      clear hbn
      go_wp2_with fail
      refine (HP.out _).mono ?_
      rintro en wn ⟨rfl, hbn⟩
      have O := HO.out.keep hbn
      clear HO zz
      have zz := O.rules
      have HO := Lib.hid O; clear O
      clear hbn
      go_wp2_with fail
      refine (HZ.out _).mono ?_
      rintro en wn ⟨rfl, hbn⟩
      have O := HO.out.keep hbn
      clear HO zz
      have zz := O.rules
      have HO := Lib.hid O; clear O
      clear hbn
      go_wp2_with fail
      refine (HQ.out _).mono ?_
      rintro en wn ⟨rfl, hbn⟩
      have O := HO.out.keep hbn
      clear HO zz
      have zz := O.rules
      have HO := Lib.hid O; clear O
      clear hbn
      go_wp2_with fail
      go_ret
      exact ⟨rfl, (HO.out.below.alloc HO.out.size _).alloc (by simp; have := HO.out.size; omega) _⟩

theorem kinds_of (b : Nat) (hb : b < 2 ^ 64) : ((partsN 52 11 b).kind == 4) = nan64 b ∧ ((partsN 52 11 b).kind == 3) = infB b ∧ ((partsN 52 11 b).kind == 0) = (!nan64 b && !infB b && decide (mantB b = 0)) := by
  obtain ⟨m, hm, hm1, k4, k3, k5, k6, -⟩ := parts_say b hb
  refine ⟨k4, k3, ?_⟩
  cases hn : nan64 b
  · cases hi : infB b
    · obtain ⟨q1, q2, q3, q4, q5, q6⟩ := parts_fin b hb hn hi
      by_cases h0 : mantB b = 0
      · rw [if_pos (q5.1 h0)] at q4
        rw [q4, decide_eq_true h0]; rfl
      · rw [if_neg (fun h => h0 (q5.2 h))] at q4
        rw [q4, decide_eq_false h0]; split <;> rfl
    · rw [hi] at k3
      have : (partsN 52 11 b).kind = 3 := by simpa using k3
      rw [this]; rfl
  · rw [hn] at k4
    have : (partsN 52 11 b).kind = 4 := by simpa using k4
    rw [this]; rfl

theorem remM_ref (A B : Nat) : remM (A % B) B (A / B % 2 == 1) = refT A B := by
  unfold remM refT
  simp only [beq_iff_eq]

theorem remM_le (m n : Nat) (odd : Bool) (h : m < n) : (remM m n odd).natAbs ≤ n := by
  unfold remM; split <;> omega

/-- What is owed, out of the contract of Rounded. -/
theorem rnd_ok (a b A B q : Nat) (ha : finB a) (hb : finB b) (hb0 : mantB b ≠ 0) (hB : 0 < B) (hX : magN a = A * 2 ^ q) (hY : magN b = B * 2 ^ q) (hBb : B ≤ 72057594037927936) (hq : q ≤ 2046) :
    RndOk (negB a) (A % B) B (A / B % 2 == 1) (-1074 + (q : Nat)) (remB a b) := by
  refine ⟨fun s M T hT hM hs w => ?_⟩
  have hml : A % B < B := Nat.mod_lt _ hB
  have hle := remM_le (A % B) B (A / B % 2 == 1) hml
  rw [hT] at hle
  rw [remM_ref, refT_eq A B hB] at hT
  have hsc : remT (magN a) (magN b) = T * ((2 ^ q : Nat) : Int) := by
    rw [hX, hY, Int.natCast_mul, Int.natCast_mul, remT_scale _ _ _ (by have := Nat.two_pow_pos q; omega), hT]
  have h1 := refround_any 52 11 2047 1023 M (-1074 + ((q : Nat) : Int)) s false w (by omega) (by omega) (by omega) rfl rfl (by omega) (fun h => by cases h) (by omega) (by omega)
  rw [show 4 * M + false.toNat = 4 * M from rfl, rnd_four, wrd_signed _ _ (rnd_lt63 _ _), rnd_rz] at h1
  have hv : remB a b = wrd s (rz (M * 2 ^ q)) := by
    unfold remB
    rw [if_neg (by rw [ha.2.1, hb.2.1, ha.2.2, decide_eq_false hb0]; simp), if_neg (by rw [hb.2.2]; simp), hsc]
    have e1 : (T * ((2 ^ q : Nat) : Int)).natAbs = M * 2 ^ q := by rw [Int.natAbs_mul, Int.natAbs_natCast]; congr 1; omega
    rw [e1, hs]
    congr 1
    have z0 := mul_pow_zero T q
    have z1 := mul_pow_lt T q
    by_cases h0 : T = 0
    · rw [if_pos (z0.2 h0), if_pos h0]
    · rw [if_neg (fun h => h0 (z0.1 h)), if_neg h0]
      congr 1
      exact decide_eq_decide.2 z1
  rw [hv]
  exact h1

theorem rem_small (a b : Nat) (ha : finB a) (hb : finB b) (hb0 : mantB b ≠ 0) (h : 2 * magN a ≤ magN b) : remB a b = a := by
  unfold remB
  rw [if_neg (by rw [ha.2.1, hb.2.1, ha.2.2, decide_eq_false hb0]; simp), if_neg (by rw [hb.2.2]; simp)]
  have hY : 0 < magN b := mag_pos.2 hb0
  have hT : remT (magN a) (magN b) = magN a := by
    unfold remT
    rw [Int.emod_eq_of_lt (by omega) (by omega), if_pos (by omega)]
  rw [hT, Int.natAbs_natCast]
  have h1 : (if ((magN a : Nat) : Int) = 0 then negB a else (decide (((magN a : Nat) : Int) < 0) ^^ negB a)) = negB a := by
    split
    · rfl
    · rw [decide_eq_false (by omega)]; simp
  rw [h1]
  exact (zF_of ha).symm

set_option maxHeartbeats 2000000 in
theorem rrem_any (a b : Nat) (w : World) (ha : a < 2 ^ 64) (hb : b < 2 ^ 64) : Calls Try.prog 74 #[.int .u64 a, .int .u64 b] w (U64Post (remB a b) w) := by
  have hz : ∀ w, Calls Try.prog 21 #[] w fun en w' => en = .returned (.agg #[.int .i64 52, .int .i64 2047, .int .i64 1023]) ∧ Below w.heap.size w w' := fun w => size64_any w
  have hp := fun w => refparts64 a w ha
  have hq := fun w => refparts64 b w hb
  obtain ⟨p4, p3, p0⟩ := kinds_of a ha
  obtain ⟨q4, q3, q0⟩ := kinds_of b hb
  have hk : Kinds (partsN 52 11 a).kind (partsN 52 11 b).kind _ _ _ _ _ _ := ⟨p4, p3, p0, q4, q3, q0⟩
  have hea := rrem_easy a b (partsN 52 11 a).kind (partsN 52 11 a).mant (partsN 52 11 a).exp (partsN 52 11 a).load (partsN 52 11 b).kind (partsN 52 11 b).mant (partsN 52 11 b).exp (partsN 52 11 b).load
    (partsN 52 11 a).neg (partsN 52 11 a).quiet (partsN 52 11 b).neg (partsN 52 11 b).quiet _ _ _ _ _ _ w hz hp hq hk
  cases hna : nan64 a
  · cases hnb : nan64 b
    · cases hia : infB a
      · have fa : finB a := ⟨ha, hna, hia⟩
        cases hib : infB b
        · have fb : finB b := ⟨hb, hnb, hib⟩
          by_cases hb0 : mantB b = 0
          · have hv : remB a b = NN0 := by unfold remB; rw [if_pos (by rw [decide_eq_true hb0]; simp)]; rfl
            rw [hv]
            exact hea.1 (by rw [hnb, hib, decide_eq_true hb0]; simp)
          · by_cases ha0 : mantB a = 0
            · have hv : remB a b = a := rem_small a b fa fb hb0 (by unfold magN; rw [ha0]; simp)
              have h2 := hea.2 (by rw [hna, hnb, hia, hib, decide_eq_false hb0]; rfl) (by rw [hna, hia, decide_eq_true ha0]; simp)
              rw [hv]; exact h2
            · obtain ⟨a1, a2, a3, a4, a5, a6⟩ := parts_fin a ha hna hia
              obtain ⟨b1, b2, b3, b4, b5, b6⟩ := parts_fin b hb hnb hib
              have hka : (partsN 52 11 a).kind ≠ 0 := by rw [a4, if_neg (fun h => ha0 (a5.2 h))]; split <;> omega
              have hkb : (partsN 52 11 b).kind ≠ 0 := by rw [b4, if_neg (fun h => hb0 (b5.2 h))]; split <;> omega
              have xa := a3 hka
              have xb := b3 hkb
              obtain ⟨pk, hpk⟩ : ∃ pk : Nat, (partsN 52 11 a).kind = pk := by rw [a4]; (repeat' split) <;> exact ⟨_, rfl⟩
              obtain ⟨qk, hqk⟩ : ∃ pk : Nat, (partsN 52 11 b).kind = pk := by rw [b4]; (repeat' split) <;> exact ⟨_, rfl⟩
              obtain ⟨pl, hpl⟩ : ∃ pl : Nat, (partsN 52 11 a).load = pl := by
                rw [parts64_num a ha]
                (repeat' split) <;> first | exact ⟨_, rfl⟩ | exact ⟨0, rfl⟩
              obtain ⟨ql, hql⟩ : ∃ pl : Nat, (partsN 52 11 b).load = pl := by
                rw [parts64_num b hb]
                (repeat' split) <;> first | exact ⟨_, rfl⟩ | exact ⟨0, rfl⟩
              have vp : (partsN 52 11 a).val = .agg #[.int .i64 pk, .bool (negB a), .int .u64 (mantB a), .int .i64 (-1074 + (placeB a : Nat)), .bool (partsN 52 11 a).quiet, .int .u64 pl] := by
                unfold FP.val; rw [hpk, a1, a2, xa, hpl]
              have vq : (partsN 52 11 b).val = .agg #[.int .i64 qk, .bool (negB b), .int .u64 (mantB b), .int .i64 (-1074 + (placeB b : Nat)), .bool (partsN 52 11 b).quiet, .int .u64 ql] := by
                unfold FP.val; rw [hqk, b1, b2, xb, hql]
              rw [vp] at hp
              rw [vq] at hq
              rw [hpk] at p4 p3 p0
              rw [hqk] at q4 q3 q0
              rw [hna] at p4
              rw [hia] at p3
              rw [hna, hia, decide_eq_false ha0] at p0
              rw [hnb] at q4
              rw [hib] at q3
              rw [hnb, hib, decide_eq_false hb0] at q0
              have ma := mant_lt a
              have mb := mant_lt b
              have pa := place_lt a
              have pb := place_lt b
              rcases Nat.le_total (placeB b) (placeB a) with hpp | hpp
              · refine rrem_up a b (mantB a) (mantB b) pk qk pl ql (placeB a - placeB b) (remB a b) _ _ (negB a) (negB b) _ _ w hz hp hq ma mb (by omega) (by omega) (by omega) p4 p3 p0 q4 q3 q0 (by omega) ?_
                refine rnd_ok a b _ _ (placeB b) fa fb hb0 (by omega) ?_ rfl (by omega) pb
                rw [Nat.mul_assoc, ← Nat.pow_add, show placeB a - placeB b + placeB b = placeB a by omega]; rfl
              · by_cases he : placeB b = placeB a
                · refine rrem_up a b (mantB a) (mantB b) pk qk pl ql (placeB a - placeB b) (remB a b) _ _ (negB a) (negB b) _ _ w hz hp hq ma mb (by omega) (by omega) (by omega) p4 p3 p0 q4 q3 q0 (by omega) ?_
                  refine rnd_ok a b _ _ (placeB b) fa fb hb0 (by omega) ?_ rfl (by omega) pb
                  rw [Nat.mul_assoc, ← Nat.pow_add, show placeB a - placeB b + placeB b = placeB a by omega]; rfl
                · refine rrem_down a b (mantB a) (mantB b) pk qk pl ql (placeB b - placeB a) (remB a b) _ _ (negB a) (negB b) _ _ w hz hp hq ma mb (by omega) (by omega) (by omega) p4 p3 p0 q4 q3 q0 (by omega) (by omega) (fun hB => ?_) (fun j hj hl => ?_)
                  · refine rnd_ok a b _ _ (placeB a) fa fb hb0 (Nat.mul_pos (by omega) (Nat.two_pow_pos _)) rfl ?_ hB pa
                    rw [Nat.mul_assoc, ← Nat.pow_add, show placeB b - placeB a + placeB a = placeB b by omega]; rfl
                  · refine rem_small a b fa fb hb0 ?_
                    unfold magN
                    have e1 : mantB b * 2 ^ placeB b = mantB b * 2 ^ j * 2 ^ (placeB b - placeB a - j) * 2 ^ placeB a := by
                      rw [Nat.mul_assoc, Nat.mul_assoc, ← Nat.pow_add, ← Nat.pow_add]; congr 2; omega
                    rw [e1, ← Nat.mul_assoc]
                    refine Nat.mul_le_mul_right _ ?_
                    have h1 : mantB b * 2 ^ j * 1 ≤ mantB b * 2 ^ j * 2 ^ (placeB b - placeB a - j) := Nat.mul_le_mul_left _ (Nat.two_pow_pos _)
                    omega
        · by_cases hb0 : mantB b = 0
          · exfalso
            have := mant_zero.1 hb0
            unfold infB at hib
            rw [this] at hib
            simp at hib
          · have hv : remB a b = a := by
              unfold remB
              rw [if_neg (by rw [hna, hnb, hia, decide_eq_false hb0]; simp), if_pos hib]
            have h2 := hea.2 (by rw [hna, hnb, hia, hib]; rfl) (by rw [hib]; rfl)
            rw [hv]; exact h2
      · have hv : remB a b = NN0 := by unfold remB; rw [if_pos (by rw [hia]; simp)]; rfl
        rw [hv]
        exact hea.1 (by rw [hia]; simp)
    · have hv : remB a b = NN0 := by unfold remB; rw [if_pos (by rw [hnb]; simp)]; rfl
      rw [hv]
      exact hea.1 (by rw [hnb]; simp)
  · have hv : remB a b = NN0 := by unfold remB; rw [if_pos (by rw [hna]; simp)]; rfl
    rw [hv]
    exact hea.1 (by rw [hna]; simp)
end Go.Proofs.Ytpemchghaddgdaa
