/- Floats of other sizes: rounded to one, and made one of 64 bits (the program's own functions). Condition: a size has 1 to 52 bits of fraction and 1 to 11 of exponent. -/
import Derived.Test.YtpemchghaddgdaaNu
import Derived.Test.YtpemchghaddgdaaBc
namespace Go.Proofs.Ytpemchghaddgdaa
open Go.RowKit Go.Pst
set_option maxRecDepth 20000
set_option linter.unusedSimpArgs false
set_option linter.unusedVariables false
attribute [local go_sem] x64bits x64from

theorem sgnd_any (b : Nat) (neg : Bool) (w : World) (hb : b < 2 ^ 64) : Calls Try.prog 93 #[.int .u64 b, .bool neg] w fun en w' => en = .returned (.float .f64 (signedBits 52 11 neg b)) ∧ Below w.heap.size w w' := by
  have hd : ∀ w, Calls Try.prog 76 #[] w fun en w' => en = .returned (.agg #[.int .i64 52, .int .i64 11]) ∧ Below w.heap.size w w' := fun w => double_any w
  have hs : ∀ w, Calls Try.prog 103 #[.agg #[.int .i64 52, .int .i64 11]] w fun en w' => en = .returned (.int .u64 9223372036854775808) ∧ Below w.heap.size w w' := fun w => sign_any 52 11 w (by omega) (by omega)
  have HD := Lib.hid hd; have HS := Lib.hid hs; clear hd hs
  cases neg
  · go_enter Try.func93, Try.ntmps93
    go_wp2
    go_ret
    exact ⟨rfl, Below.refl _ _⟩
  · have hor : bits .or .u64 (b : Int) 9223372036854775808 = ((b ||| 9223372036854775808 : Nat) : Int) := or64 (a := b) (b := 9223372036854775808) hb (by decide)
    have hsb : signedBits 52 11 true b = b ||| 9223372036854775808 := rfl
    rw [hsb]
    generalize b ||| 9223372036854775808 = y at *
    clear hsb hb
    go_enter Try.func93, Try.ntmps93
    go_wp2_with fail
    have O := Reg.Own.nil w
    have zz := O.rules
    have HO := Lib.hid O; clear O
    go_wp2_with fail
    refine (HD.out _).mono ?_
    rintro en wn ⟨rfl, hbn⟩
    have O := HO.out.keep hbn
    clear HO zz
    have zz := O.rules
    have HO := Lib.hid O; clear O
    clear hbn
    go_wp2_with fail
    refine (HS.out _).mono ?_
    rintro en wn ⟨rfl, hbn⟩
    have O := HO.out.keep hbn
    clear HO zz
    have zz := O.rules
    have HO := Lib.hid O; clear O
    clear hbn
    go_wp2_with fail
    go_ret
    exact ⟨by simp, HO.out.below⟩

theorem near_zero (f e : Nat) (E : Int) (w : World) : Calls Try.prog 94 #[.agg #[.int .i64 f, .int .i64 e], .int .u64 0, .int .i64 E] w fun en w' => en = .returned (.int .u64 0) ∧ Below w.heap.size w w' := by
  go_enter Try.func94, Try.ntmps94
  go_wp2_with fail
  go_ret
  exact ⟨rfl, (Below.refl _ _).alloc (Nat.le_refl _) _⟩

theorem near_all (f e m : Nat) (E : Int) (w : World) (hf : f ≤ 52) (he1 : 1 ≤ e) (he : e ≤ 11) (hm : m < 2 ^ 64) (hE1 : -2 ^ 40 ≤ E) (hE2 : E ≤ 2 ^ 40) :
    Calls Try.prog 94 #[.agg #[.int .i64 f, .int .i64 e], .int .u64 m, .int .i64 E] w fun en w' => en = .returned (.int .u64 (rndN f e m E)) ∧ Below w.heap.size w w' := by
  by_cases h0 : m = 0
  · subst h0
    have : rndN f e 0 E = 0 := by unfold rndN; rw [if_pos rfl]
    rw [this]
    exact near_zero f e E w
  · exact near_any f e m E w hf he1 he hm h0 hE1 hE2

theorem rnd_lt_top (f e m : Nat) (E : Int) : rndN f e m E ≤ (2 ^ e - 1) * 2 ^ f := by
  unfold rndN; split
  · omega
  · omega

/-- What the parts of a float of 64 bits say. -/
theorem parts_say (b : Nat) (hb : b < 2 ^ 64) : ∃ m : Nat, (partsN 52 11 b).mant = m ∧ m < 2 ^ 53 ∧ ((partsN 52 11 b).kind == 4) = nan64 b ∧ ((partsN 52 11 b).kind == 3) = infB b ∧ (partsN 52 11 b).neg = negB b ∧
    (-1074 ≤ (partsN 52 11 b).exp ∧ (partsN 52 11 b).exp ≤ 972) ∧
    (nan64 b = false → infB b = false → ∀ f e, rndN f e m (partsN 52 11 b).exp = rndN f e (mantB b) (-1074 + (placeB b : Nat))) := by
  obtain ⟨k1, k2, k3, k4⟩ := kind64 b hb
  have hp := parts64_num b hb
  have hq := parts_fin b hb
  have hlt : b % 4503599627370496 < 4503599627370496 := Nat.mod_lt _ (by omega)
  have hlt2 : b / 4503599627370496 % 2048 < 2048 := Nat.mod_lt _ (by omega)
  obtain ⟨m, hm, hm1, hm2⟩ : ∃ m : Nat, (partsN 52 11 b).mant = m ∧ m < 2 ^ 53 ∧ (-1074 ≤ (partsN 52 11 b).exp ∧ (partsN 52 11 b).exp ≤ 972) := by
    rw [hp]
    split
    · split
      · exact ⟨0, rfl, by omega, by simp⟩
      · exact ⟨0, rfl, by omega, by simp⟩
    · split
      · exact ⟨_, rfl, by omega, by simp; omega⟩
      · split
        · exact ⟨_, rfl, by omega, by simp⟩
        · exact ⟨0, rfl, by omega, by simp⟩
  refine ⟨m, hm, hm1, k1, by rw [k2]; unfold infB; rw [Bool.eq_iff_iff]; simp, k4, hm2, fun hn hi f e => ?_⟩
  obtain ⟨q1, q2, q3, q4, q5, q6⟩ := hq hn hi
  have hmm : m = mantB b := by omega
  subst hmm
  by_cases hk : (partsN 52 11 b).kind = 0
  · have : mantB b = 0 := by
      rw [q4] at hk
      by_cases h0 : b % 9223372036854775808 = 0
      · exact q5.2 h0
      · rw [if_neg h0] at hk; split at hk <;> omega
    unfold rndN
    rw [if_pos this, if_pos this]
  · rw [q3 hk]

theorem rnd_lt64 {f e : Nat} (hf : f ≤ 52) (he : e ≤ 11) (m : Nat) (E : Int) : rndN f e m E < 2 ^ 63 := Nat.lt_of_le_of_lt (rnd_lt_top f e m E) (top_lt hf he)


set_option maxHeartbeats 1000000 in
theorem rounded_any (f e nn b : Nat) (w : World) (hf : f ≤ 52) (he1 : 1 ≤ e) (he : e ≤ 11) (hb : b < 2 ^ 64) :
    Calls Try.prog 92 #[.float .f64 b, .agg #[.int .i64 f, .int .i64 e], .int .u64 nn] w fun en w' => en = .returned (.int .u64 (intoN f e nn b)) ∧ Below w.heap.size w w' := by
  have a0 : (2 : Int) ^ f = ((2 ^ f : Nat) : Int) := by simp
  have a1 : 1 ≤ 2 ^ f := Nat.one_le_two_pow
  have a2 : 2 ^ f ≤ 2 ^ 52 := Nat.pow_le_pow_right (by omega) hf
  have a3' : 2 ^ e ≤ 2 ^ 11 := Nat.pow_le_pow_right (by omega) he
  have a3 : 2 ^ e - 1 ≤ 2047 := by omega
  have a4 : 1 ≤ 2 ^ (f + e) := Nat.one_le_two_pow
  have a5 : 2 ^ (f + e) ≤ 2 ^ 63 := pow_lt64 (by omega)
  have hTP := top_lt hf he
  have bT : IntKind.u64.wrap (((2 ^ e - 1 : Nat) : Int) * ((2 ^ f : Nat) : Int)) = (((2 ^ e - 1) * 2 ^ f : Nat) : Int) := by rw [← Int.natCast_mul]; exact wrapU _ (by omega)
  obtain ⟨m, hm, hm1, k1, k2, k3, k4, k5⟩ := parts_say b hb
  have hp := fun w => parts64_any b w hb
  have hn := fun w => near_all f e m (partsN 52 11 b).exp w hf he1 he (by omega) (by omega) (by omega)
  have ht := fun w => top_any f e w he
  have hs := fun w => sign_any f e w hf he
  have hv : intoN f e nn b = if nan64 b then nn else signedBits f e (negB b) (if infB b then (2 ^ e - 1) * 2 ^ f else rndN f e m (partsN 52 11 b).exp) := by
    unfold intoN
    cases h1 : nan64 b
    · cases h2 : infB b
      · rw [k5 h1 h2]
      · rfl
    · rfl
  have hrl := rnd_lt64 hf he m (partsN 52 11 b).exp
  rw [hv]
  clear hv k5
  generalize rndN f e m (partsN 52 11 b).exp = r at *
  generalize partsN 52 11 b = p at *
  obtain ⟨pk, pn, pm, px, pq, pl⟩ := p
  simp only [FP.val] at hp hm k1 k2 k3 hn
  subst hm k3
  have hsign : ∀ u : Nat, u < 2 ^ 64 → bits .or .u64 (u : Int) ((2 ^ (f + e) : Nat) : Int) = ((signedBits f e true u : Nat) : Int) := fun u hu => or64 hu (by omega)
  have s0 : ∀ u, signedBits f e false u = u := fun u => rfl
  have HP := Lib.hid hp; have HN := Lib.hid hn; clear hp hn
  generalize nan64 b = na at *
  generalize infB b = ni at *
  cases na
  · rw [if_neg (by simp)]
    cases ni
    · rw [if_neg (by simp)]
      have h1 := hsign r (by omega)
      clear hsign hTP bT ht
      generalize 2 ^ (f + e) = G at *
      have HS := Lib.hid hs; clear hs
      cases hng : negB b
      · rw [hng] at HP
        rw [s0]
        clear h1 s0
        go_enter Try.func92, Try.ntmps92
        go_wp2_with fail
        have O := (Reg.Own.nil w).alloc rfl #[.int .i64 f, .int .i64 e] 100
        obtain ⟨c0, f0, z0, y0, -, zz⟩ := O.rules
        have HO := Lib.hid O; clear O
        refine (HP.out _).mono ?_
        rintro en wn ⟨rfl, hbn⟩
        have O := HO.out.keep hbn
        clear HO c0 f0 z0 y0 zz
        obtain ⟨c0, f0, z0, y0, -, zz⟩ := O.rules
        have HO := Lib.hid O; clear O
        clear hbn
        go_wp2_with fail
        have O := HO.out.alloc rfl #[.int .i64 pk, .bool false, .int .u64 m, .int .i64 px, .bool pq, .int .u64 pl] 24
        clear HO c0 f0 z0 y0 zz
        obtain ⟨c1, f1, z1, y1, ⟨n10, -⟩, c0, f0, z0, y0, -, zz⟩ := O.rules
        have HO := Lib.hid O; clear O
        refine (HN.out _).mono ?_
        rintro en wn ⟨rfl, hbn⟩
        have O := HO.out.keep hbn
        clear HO c1 f1 z1 y1 n10 c0 f0 z0 y0 zz
        obtain ⟨c1, f1, z1, y1, ⟨n10, -⟩, c0, f0, z0, y0, -, zz⟩ := O.rules
        have HO := Lib.hid O; clear O
        clear hbn
        go_wp2_with fail
        go_ret
        exact ⟨rfl, HO.out.below⟩
      · rw [hng] at HP
        generalize signedBits f e true r = y at *
        clear s0
        go_enter Try.func92, Try.ntmps92
        go_wp2_with fail
        have O := (Reg.Own.nil w).alloc rfl #[.int .i64 f, .int .i64 e] 100
        obtain ⟨c0, f0, z0, y0, -, zz⟩ := O.rules
        have HO := Lib.hid O; clear O
        refine (HP.out _).mono ?_
        rintro en wn ⟨rfl, hbn⟩
        have O := HO.out.keep hbn
        clear HO c0 f0 z0 y0 zz
        obtain ⟨c0, f0, z0, y0, -, zz⟩ := O.rules
        have HO := Lib.hid O; clear O
        clear hbn
        go_wp2_with fail
        have O := HO.out.alloc rfl #[.int .i64 pk, .bool true, .int .u64 m, .int .i64 px, .bool pq, .int .u64 pl] 24
        clear HO c0 f0 z0 y0 zz
        obtain ⟨c1, f1, z1, y1, ⟨n10, -⟩, c0, f0, z0, y0, -, zz⟩ := O.rules
        have HO := Lib.hid O; clear O
        refine (HN.out _).mono ?_
        rintro en wn ⟨rfl, hbn⟩
        have O := HO.out.keep hbn
        clear HO c1 f1 z1 y1 n10 c0 f0 z0 y0 zz
        obtain ⟨c1, f1, z1, y1, ⟨n10, -⟩, c0, f0, z0, y0, -, zz⟩ := O.rules
        have HO := Lib.hid O; clear O
        clear hbn
        go_wp2_with fail
        refine (HS.out _).mono ?_
        rintro en wn ⟨rfl, hbn⟩
        have O := HO.out.keep hbn
        clear HO c1 f1 z1 y1 n10 c0 f0 z0 y0 zz
        obtain ⟨c1, f1, z1, y1, ⟨n10, -⟩, c0, f0, z0, y0, -, zz⟩ := O.rules
        have HO := Lib.hid O; clear O
        clear hbn
        go_wp2_with fail
        go_ret
        exact ⟨by first | rfl | simp, HO.out.below⟩
    · rw [if_pos rfl]
      have h1 := hsign ((2 ^ e - 1) * 2 ^ f) (by omega)
      clear hsign
      generalize (2 ^ e - 1) * 2 ^ f = u at *
      generalize 2 ^ (f + e) = G at *
      generalize 2 ^ e - 1 = T at *
      generalize 2 ^ f = P at *
      have HS := Lib.hid hs; clear hs
      have HT := Lib.hid ht; clear ht
      clear a3'
      cases hng : negB b
      · rw [hng] at HP
        rw [s0]
        clear h1 s0
        go_enter Try.func92, Try.ntmps92
        go_wp2_with fail
        have O := (Reg.Own.nil w).alloc rfl #[.int .i64 f, .int .i64 e] 100
        obtain ⟨c0, f0, z0, y0, -, zz⟩ := O.rules
        have HO := Lib.hid O; clear O
        refine (HP.out _).mono ?_
        rintro en wn ⟨rfl, hbn⟩
        have O := HO.out.keep hbn
        clear HO c0 f0 z0 y0 zz
        obtain ⟨c0, f0, z0, y0, -, zz⟩ := O.rules
        have HO := Lib.hid O; clear O
        clear hbn
        go_wp2_with fail
        have O := HO.out.alloc rfl #[.int .i64 pk, .bool false, .int .u64 m, .int .i64 px, .bool pq, .int .u64 pl] 24
        clear HO c0 f0 z0 y0 zz
        obtain ⟨c1, f1, z1, y1, ⟨n10, -⟩, c0, f0, z0, y0, -, zz⟩ := O.rules
        have HO := Lib.hid O; clear O
        refine (HN.out _).mono ?_
        rintro en wn ⟨rfl, hbn⟩
        have O := HO.out.keep hbn
        clear HO c1 f1 z1 y1 n10 c0 f0 z0 y0 zz
        obtain ⟨c1, f1, z1, y1, ⟨n10, -⟩, c0, f0, z0, y0, -, zz⟩ := O.rules
        have HO := Lib.hid O; clear O
        clear hbn
        go_wp2_with fail
        refine Reg.wp_region_rd (by kernel_rfl) (by kernel_rfl) (fun _ => ?_)
        repeat (refine Reg.rd_op rfl ?_; apply Exists.intro; apply And.intro; (intro w' hb; have hc := Reg.rd_cells hb; clear hb; go_simp; (try go_bits); first | done | (with_reducible exact rfl)); (intro _ a' ha'; simp only [Act.put, List.setIfInBounds_toArray, List.set_cons_zero, List.set_cons_succ] at ha'; subst ha'))
        refine Reg.rd_op rfl ?_; apply Exists.intro; apply And.intro
        · intro w' hb; have hsz := Reg.rd_size hb; clear hb; go_simp; (try go_bits); exact HT.out _
        intro _ a' ha'; simp only [Act.put, List.setIfInBounds_toArray, List.set_cons_zero, List.set_cons_succ] at ha'; subst ha'
        repeat (refine Reg.rd_op rfl ?_; apply Exists.intro; apply And.intro; (intro w' hb; have hc := Reg.rd_cells hb; clear hb; go_simp; (try go_bits); first | done | (with_reducible exact rfl)); (intro _ a' ha'; simp only [Act.put, List.setIfInBounds_toArray, List.set_cons_zero, List.set_cons_succ] at ha'; subst ha'))
        refine Reg.rd_end (fun wz hb => ?_)
        have O := HO.out.keep hb
        clear HO c1 f1 z1 y1 n10 c0 f0 z0 y0 zz
        obtain ⟨c1, f1, z1, y1, ⟨n10, -⟩, c0, f0, z0, y0, -, zz⟩ := O.rules
        have HO := Lib.hid O; clear O
        clear hb
        go_wp2_with fail
        go_ret
        exact ⟨by first | rfl | simp, HO.out.below⟩
      · rw [hng] at HP
        generalize signedBits f e true u = y at *
        clear s0
        go_enter Try.func92, Try.ntmps92
        go_wp2_with fail
        have O := (Reg.Own.nil w).alloc rfl #[.int .i64 f, .int .i64 e] 100
        obtain ⟨c0, f0, z0, y0, -, zz⟩ := O.rules
        have HO := Lib.hid O; clear O
        refine (HP.out _).mono ?_
        rintro en wn ⟨rfl, hbn⟩
        have O := HO.out.keep hbn
        clear HO c0 f0 z0 y0 zz
        obtain ⟨c0, f0, z0, y0, -, zz⟩ := O.rules
        have HO := Lib.hid O; clear O
        clear hbn
        go_wp2_with fail
        have O := HO.out.alloc rfl #[.int .i64 pk, .bool true, .int .u64 m, .int .i64 px, .bool pq, .int .u64 pl] 24
        clear HO c0 f0 z0 y0 zz
        obtain ⟨c1, f1, z1, y1, ⟨n10, -⟩, c0, f0, z0, y0, -, zz⟩ := O.rules
        have HO := Lib.hid O; clear O
        refine (HN.out _).mono ?_
        rintro en wn ⟨rfl, hbn⟩
        have O := HO.out.keep hbn
        clear HO c1 f1 z1 y1 n10 c0 f0 z0 y0 zz
        obtain ⟨c1, f1, z1, y1, ⟨n10, -⟩, c0, f0, z0, y0, -, zz⟩ := O.rules
        have HO := Lib.hid O; clear O
        clear hbn
        go_wp2_with fail
        refine Reg.wp_region_rd (by kernel_rfl) (by kernel_rfl) (fun _ => ?_)
        repeat (refine Reg.rd_op rfl ?_; apply Exists.intro; apply And.intro; (intro w' hb; have hc := Reg.rd_cells hb; clear hb; go_simp; (try go_bits); first | done | (with_reducible exact rfl)); (intro _ a' ha'; simp only [Act.put, List.setIfInBounds_toArray, List.set_cons_zero, List.set_cons_succ] at ha'; subst ha'))
        refine Reg.rd_op rfl ?_; apply Exists.intro; apply And.intro
        · intro w' hb; have hsz := Reg.rd_size hb; clear hb; go_simp; (try go_bits); exact HT.out _
        intro _ a' ha'; simp only [Act.put, List.setIfInBounds_toArray, List.set_cons_zero, List.set_cons_succ] at ha'; subst ha'
        repeat (refine Reg.rd_op rfl ?_; apply Exists.intro; apply And.intro; (intro w' hb; have hc := Reg.rd_cells hb; clear hb; go_simp; (try go_bits); first | done | (with_reducible exact rfl)); (intro _ a' ha'; simp only [Act.put, List.setIfInBounds_toArray, List.set_cons_zero, List.set_cons_succ] at ha'; subst ha'))
        refine Reg.rd_end (fun wz hb => ?_)
        have O := HO.out.keep hb
        clear HO c1 f1 z1 y1 n10 c0 f0 z0 y0 zz
        obtain ⟨c1, f1, z1, y1, ⟨n10, -⟩, c0, f0, z0, y0, -, zz⟩ := O.rules
        have HO := Lib.hid O; clear O
        clear hb
        go_wp2_with fail
        refine (HS.out _).mono ?_
        rintro en wn ⟨rfl, hbn⟩
        have O := HO.out.keep hbn
        clear HO c1 f1 z1 y1 n10 c0 f0 z0 y0 zz
        obtain ⟨c1, f1, z1, y1, ⟨n10, -⟩, c0, f0, z0, y0, -, zz⟩ := O.rules
        have HO := Lib.hid O; clear O
        clear hbn
        go_wp2_with fail
        go_ret
        exact ⟨by first | rfl | simp, HO.out.below⟩
  · rw [if_pos rfl]
    clear hsign s0 hs ht bT hTP a0 a1 a2 a3 a4 a5 a3'
    go_enter Try.func92, Try.ntmps92
    go_wp2_with fail
    have O := (Reg.Own.nil w).alloc rfl #[.int .i64 f, .int .i64 e] 100
    obtain ⟨c0, f0, z0, y0, -, zz⟩ := O.rules
    have HO := Lib.hid O; clear O
    refine (HP.out _).mono ?_
    rintro en wn ⟨rfl, hbn⟩
    have O := HO.out.keep hbn
    clear HO c0 f0 z0 y0 zz
    obtain ⟨c0, f0, z0, y0, -, zz⟩ := O.rules
    have HO := Lib.hid O; clear O
    clear hbn
    go_wp2_with fail
    have O := HO.out.alloc rfl #[.int .i64 pk, .bool (negB b), .int .u64 m, .int .i64 px, .bool pq, .int .u64 pl] 24
    clear HO c0 f0 z0 y0 zz
    obtain ⟨c1, f1, z1, y1, ⟨n10, -⟩, c0, f0, z0, y0, -, zz⟩ := O.rules
    have HO := Lib.hid O; clear O
    refine (HN.out _).mono ?_
    rintro en wn ⟨rfl, hbn⟩
    have O := HO.out.keep hbn
    clear HO c1 f1 z1 y1 n10 c0 f0 z0 y0 zz
    obtain ⟨c1, f1, z1, y1, ⟨n10, -⟩, c0, f0, z0, y0, -, zz⟩ := O.rules
    have HO := Lib.hid O; clear O
    clear hbn
    go_wp2_with fail
    go_ret
    exact ⟨by first | rfl | simp, HO.out.below⟩

/-! ### Of another size -/
theorem partsG (f e b : Nat) (hf1 : 1 ≤ f) (h : b < 2 ^ (1 + f + e)) (he1 : 1 ≤ e) : ∃ m : Nat, (partsN f e b).mant = m ∧ m < 2 ^ (f + 1) ∧ ((partsN f e b).kind == 4) = nanG f e b ∧ (nanG f e b = false → ((partsN f e b).kind == 3) = infG f e b) ∧
    (partsN f e b).neg = negG f e b ∧ (-(2 ^ e : Nat) - f ≤ (partsN f e b).exp ∧ (partsN f e b).exp ≤ (2 ^ e : Nat)) ∧ (infG f e b = false → m = mantG f e b ∧ (partsN f e b).exp = expG f e b) := by
  have hF : b % 2 ^ f < 2 ^ f := Nat.mod_lt _ (Nat.two_pow_pos f)
  have hE : b / 2 ^ f % 2 ^ e < 2 ^ e := Nat.mod_lt _ (Nat.two_pow_pos e)
  have h1 : 1 ≤ 2 ^ e := Nat.one_le_two_pow
  have h2 : 2 ^ (f + 1) = 2 * 2 ^ f := by rw [Nat.pow_succ]; omega
  unfold partsN nanG infG negG mantG expG
  unfold lst
  rw [h2]
  generalize b / 2 ^ f % 2 ^ e = E at *
  generalize b % 2 ^ f = F at *
  by_cases c1 : E = 2 ^ e - 1
  · rw [if_pos c1]
    by_cases c2 : F = 0
    · rw [if_pos c2]
      refine ⟨0, rfl, by omega, ?_, ?_, rfl, (by show -((2 ^ e : Nat) : Int) - (f : Int) ≤ 0 ∧ (0 : Int) ≤ ((2 ^ e : Nat) : Int); omega), ?_⟩
      · rw [c2]; simp
      · rw [c1]; simp
      · rw [c1]; simp
    · rw [if_neg c2]
      refine ⟨0, rfl, by omega, ?_, ?_, rfl, (by show -((2 ^ e : Nat) : Int) - (f : Int) ≤ 0 ∧ (0 : Int) ≤ ((2 ^ e : Nat) : Int); omega), ?_⟩
      · rw [c1]; simp [c2]
      · rw [c1]; simp [c2]
      · rw [c1]; simp
  · rw [if_neg c1]
    by_cases c2 : 0 < E
    · rw [if_pos c2]
      refine ⟨2 ^ f + F, rfl, by omega, ?_, ?_, rfl, by simp only; omega, ?_⟩
      · simp [c1]
      · intro _; simp [c1]
      · intro _; rw [if_pos c2, if_pos c2]; exact ⟨rfl, rfl⟩
    · rw [if_neg c2]
      by_cases c3 : 0 < F
      · rw [if_pos c3]
        refine ⟨F, rfl, by omega, ?_, ?_, rfl, by simp only; omega, ?_⟩
        · simp [c1]
        · intro _; simp [c1]
        · intro _; rw [if_neg c2, if_neg c2, if_pos c3]; exact ⟨rfl, rfl⟩
      · rw [if_neg c3]
        refine ⟨0, rfl, by omega, ?_, ?_, rfl, by simp only; omega, ?_⟩
        · simp [c1]
        · intro _; simp [c1]
        · intro _; rw [if_neg c2, if_neg c2, if_neg c3]; exact ⟨by omega, rfl⟩

end Go.Proofs.Ytpemchghaddgdaa
