/- Every Scale is what the document says; there and back it is the same, where nothing was lost: the law RealScales returns true for every input. No condition. -/
import Derived.Test.YtpemchghaddgdaaNu
import Derived.Test.YtpemchghaddgdaaNv
namespace Go.Proofs.Ytpemchghaddgdaa
open Go.RowKit Go.Pst Go.ChangeShapes Go.WideShapes Go.ChangeAt Go.Joins Go.Deep
set_option maxRecDepth 20000
set_option linter.unusedSimpArgs false
set_option linter.unusedVariables false
attribute [local go_sem] x64bits x64from x32bits x32from

def limN (n : Int) : Int := min (max n (-10000)) 10000
def scaleN (b m : Nat) (n : Int) : Nat := if m = 0 then b else signedBits 52 11 (partsN 52 11 b).neg (rndN 52 11 m ((partsN 52 11 b).exp + limN n))

theorem limited_any (n : Int) (w : World) : Calls Try.prog 95 #[.int .i64 n] w fun en w' => en = .returned (.int .i64 (limN n)) ∧ Below w.heap.size w w' := by
  unfold limN
  go_enter Try.func95, Try.ntmps95
  go_wp2
  all_goals (go_ret; exact ⟨ret_int (by omega), Below.refl _ _⟩)

theorem signed_any (b : Nat) (neg : Bool) (w : World) (hb : b < 2 ^ 64) : Calls Try.prog 93 #[.int .u64 b, .bool neg] w fun en w' => en = .returned (.float .f64 (signedBits 52 11 neg b)) ∧ Below w.heap.size w w' := by
  have hd : ∀ w, Calls Try.prog 76 #[] w fun en w' => en = .returned (.agg #[.int .i64 52, .int .i64 11]) ∧ Below w.heap.size w w' := fun w => double_any w
  have hs : ∀ w, Calls Try.prog 103 #[.agg #[.int .i64 52, .int .i64 11]] w fun en w' => en = .returned (.int .u64 9223372036854775808) ∧ Below w.heap.size w w' := fun w => sign_any 52 11 w (by omega) (by omega)
  have HD := Lib.hid hd; have HS := Lib.hid hs; clear hd hs
  cases neg
  · go_enter Try.func93, Try.ntmps93
    go_wp2
    go_ret
    exact ⟨rfl, Below.refl _ _⟩
  · have hor : bits .or .u64 (b : Int) 9223372036854775808 = ((b ||| 9223372036854775808 : Nat) : Int) := or64 (a := b) (b := 9223372036854775808) hb (by decide)
    have hsb : signedBits 52 11 true b = b ||| 9223372036854775808 := rfl
    rw [hsb]
    generalize b ||| 9223372036854775808 = y at *
    clear hsb hb
    go_enter Try.func93, Try.ntmps93
    go_wp2_with fail
    have O := Reg.Own.nil w
    have zz := O.rules
    have HO := Lib.hid O; clear O
    go_wp2_with fail
    refine (HD.out _).mono ?_
    rintro en wn ⟨rfl, hbn⟩
    have O := HO.out.keep hbn
    clear HO zz
    have zz := O.rules
    have HO := Lib.hid O; clear O
    clear hbn
    go_wp2_with fail
    refine (HS.out _).mono ?_
    rintro en wn ⟨rfl, hbn⟩
    have O := HO.out.keep hbn
    clear HO zz
    have zz := O.rules
    have HO := Lib.hid O; clear O
    clear hbn
    go_wp2_with fail
    go_ret
    exact ⟨by simp, HO.out.below⟩

theorem scale_any (b m : Nat) (n : Int) (w : World) (hb : b < 2 ^ 64) (hm : (partsN 52 11 b).mant = m) (hm64 : m < 2 ^ 64) (hx : -2 ^ 20 < (partsN 52 11 b).exp ∧ (partsN 52 11 b).exp < 2 ^ 20) :
    Calls Try.prog 54 #[.float .f64 b, .int .i64 n] w fun en w' => en = .returned (.float .f64 (scaleN b m n)) ∧ Below w.heap.size w w' := by
  have hp := fun w => parts64_any b w hb
  have hd : ∀ w, Calls Try.prog 76 #[] w fun en w' => en = .returned (.agg #[.int .i64 52, .int .i64 11]) ∧ Below w.heap.size w w' := fun w => double_any w
  have hl := fun w => limited_any n w
  have hlb : -10000 ≤ limN n ∧ limN n ≤ 10000 := by unfold limN; omega
  unfold scaleN
  generalize partsN 52 11 b = p at *
  obtain ⟨pk, pn, pm, px, pq, pl⟩ := p
  simp only [FP.val] at hp hm hx ⊢
  subst hm
  generalize limN n = L at *
  have HP := Lib.hid hp; have HD := Lib.hid hd; have HL := Lib.hid hl; clear hp hd hl
  by_cases h0 : m = 0
  · subst h0
    rw [if_pos rfl]
    go_enter Try.func54, Try.ntmps54
    go_wp2_with fail
    have O := Reg.Own.nil w
    have zz := O.rules
    have HO := Lib.hid O; clear O
    go_wp2_with fail
    refine (HP.out _).mono ?_
    rintro en wn ⟨rfl, hbn⟩
    have O := HO.out.keep hbn
    clear HO zz
    have zz := O.rules
    have HO := Lib.hid O; clear O
    clear hbn
    go_wp2_with fail
    go_ret
    exact ⟨rfl, HO.out.below.alloc HO.out.size _⟩
  · rw [if_neg h0]
    have hn : ∀ w, Calls Try.prog 94 #[.agg #[.int .i64 52, .int .i64 11], .int .u64 m, .int .i64 (px + L)] w fun en w' => en = .returned (.int .u64 (rndN 52 11 m (px + L))) ∧ Below w.heap.size w w' :=
      fun w => near_any 52 11 m (px + L) w (by omega) (by omega) (by omega) hm64 h0 (by omega) (by omega)
    have hr := rnd_lt m (px + L)
    have hs := fun w => signed_any (rndN 52 11 m (px + L)) pn w (by omega)
    generalize rndN 52 11 m (px + L) = r at *
    generalize signedBits 52 11 pn r = y at *
    have HN := Lib.hid hn; have HS := Lib.hid hs; clear hn hs hr
    have h1 : ((m : Int) == 0) = false := by simp; omega
    clear h0
    go_enter Try.func54, Try.ntmps54
    go_wp2_with fail
    have O := Reg.Own.nil w
    have zz := O.rules
    have HO := Lib.hid O; clear O
    go_wp2_with fail
    refine (HP.out _).mono ?_
    rintro en wn ⟨rfl, hbn⟩
    have O := HO.out.keep hbn
    clear HO zz
    have zz := O.rules
    have HO := Lib.hid O; clear O
    clear hbn
    go_wp2_with fail
    refine Reg.wp_region_rd (by kernel_rfl) (by kernel_rfl) (fun _ => ?_)
    repeat (refine Reg.rd_op rfl ?_; apply Exists.intro; apply And.intro; (intro w' hb; have hc := Reg.rd_cells hb; clear hb; go_simp; (try go_bits); first | done | (with_reducible exact rfl)); (intro _ a' ha'; simp only [Act.put, List.setIfInBounds_toArray, List.set_cons_zero, List.set_cons_succ] at ha'; subst ha'))
    refine Reg.rd_op rfl ?_; apply Exists.intro; apply And.intro
    · intro w' hb; have hsz := Reg.rd_size hb; clear hb; go_simp; (try go_bits); exact HD.out _
    intro _ a' ha'; simp only [Act.put, List.setIfInBounds_toArray, List.set_cons_zero, List.set_cons_succ] at ha'; subst ha'
    repeat (refine Reg.rd_op rfl ?_; apply Exists.intro; apply And.intro; (intro w' hb; have hc := Reg.rd_cells hb; clear hb; go_simp; (try go_bits); first | done | (with_reducible exact rfl)); (intro _ a' ha'; simp only [Act.put, List.setIfInBounds_toArray, List.set_cons_zero, List.set_cons_succ] at ha'; subst ha'))
    refine Reg.rd_op rfl ?_; apply Exists.intro; apply And.intro
    · intro w' hb; have hsz := Reg.rd_size hb; clear hb; go_simp; (try go_bits); exact HL.out _
    intro _ a' ha'; simp only [Act.put, List.setIfInBounds_toArray, List.set_cons_zero, List.set_cons_succ] at ha'; subst ha'
    repeat (refine Reg.rd_op rfl ?_; apply Exists.intro; apply And.intro; (intro w' hb; have hc := Reg.rd_cells hb; clear hb; go_simp; (try go_bits); first | done | (with_reducible exact rfl)); (intro _ a' ha'; simp only [Act.put, List.setIfInBounds_toArray, List.set_cons_zero, List.set_cons_succ] at ha'; subst ha'))
    refine Reg.rd_op rfl ?_; apply Exists.intro; apply And.intro
    · intro w' hb; have hsz := Reg.rd_size hb; clear hb; go_simp; (try go_bits); exact HN.out _
    intro _ a' ha'; simp only [Act.put, List.setIfInBounds_toArray, List.set_cons_zero, List.set_cons_succ] at ha'; subst ha'
    repeat (refine Reg.rd_op rfl ?_; apply Exists.intro; apply And.intro; (intro w' hb; have hc := Reg.rd_cells hb; clear hb; go_simp; (try go_bits); first | done | (with_reducible exact rfl)); (intro _ a' ha'; simp only [Act.put, List.setIfInBounds_toArray, List.set_cons_zero, List.set_cons_succ] at ha'; subst ha'))
    refine Reg.rd_op rfl ?_; apply Exists.intro; apply And.intro
    · intro w' hb; have hsz := Reg.rd_size hb; clear hb; go_simp; (try go_bits); exact HS.out _
    intro _ a' ha'; simp only [Act.put, List.setIfInBounds_toArray, List.set_cons_zero, List.set_cons_succ] at ha'; subst ha'
    repeat (refine Reg.rd_op rfl ?_; apply Exists.intro; apply And.intro; (intro w' hb; have hc := Reg.rd_cells hb; clear hb; go_simp; (try go_bits); first | done | (with_reducible exact rfl)); (intro _ a' ha'; simp only [Act.put, List.setIfInBounds_toArray, List.set_cons_zero, List.set_cons_succ] at ha'; subst ha'))
    refine Reg.rd_end (fun wz hb => ?_)
    go_wp2_with fail
    go_ret
    have := HO.out.size
    exact ⟨rfl, (HO.out.below.alloc this _).trans (hb.mono (by simp; omega))⟩

theorem scale_parts (b m : Nat) (hb : b < 2 ^ 64) (hm : (partsN 52 11 b).mant = m) : m < 2 ^ 53 ∧ (-2 ^ 20 < (partsN 52 11 b).exp ∧ (partsN 52 11 b).exp < 2 ^ 20) ∧
    ((partsN 52 11 b).kind = 2 → 2 ^ 52 ≤ m) ∧ (((partsN 52 11 b).kind = 1 ∨ (partsN 52 11 b).kind = 2) → m ≠ 0) ∧ ((partsN 52 11 b).kind ≠ 1 → (partsN 52 11 b).kind ≠ 2 → m = 0) := by
  have hp := parts64_num b hb
  generalize partsN 52 11 b = p at *
  have h1 : b % 4503599627370496 < 4503599627370496 := Nat.mod_lt _ (by omega)
  have h2 : b / 4503599627370496 % 2048 < 2048 := Nat.mod_lt _ (by omega)
  split at hp
  · split at hp <;> (subst hp; simp at hm ⊢; omega)
  · split at hp
    · subst hp; simp at hm ⊢; omega
    · split at hp <;> (subst hp; simp at hm ⊢; omega)

theorem scale_ref (m : Nat) (E n : Int) (hm : m < 2 ^ 53) (h0 : m ≠ 0) (hE : -1074 ≤ E ∧ E ≤ 971) :
    rndN 52 11 m (E + min (max n (-6000)) 6000) = rndN 52 11 m (E + limN n) := by
  unfold limN
  rcases Int.lt_or_le 6000 n with h | h
  · rw [rnd_big m _ h0 (by omega), rnd_big m _ h0 (by omega)]
  · rcases Int.lt_or_le n (-6000) with h2 | h2
    · rw [rnd_small m _ (by omega) (by omega), rnd_small m _ (by omega) (by omega)]
    · congr 1; omega

theorem kind_range (b : Nat) (hb : b < 2 ^ 64) : (partsN 52 11 b).kind = 0 ∨ (partsN 52 11 b).kind = 1 ∨ (partsN 52 11 b).kind = 2 ∨ (partsN 52 11 b).kind = 3 ∨ (partsN 52 11 b).kind = 4 := by
  have hp := parts64_num b hb
  generalize partsN 52 11 b = p at *
  split at hp
  · split at hp <;> (subst hp; simp)
  · split at hp
    · subst hp; simp
    · split at hp <;> (subst hp; simp)

theorem mant_nat (b : Nat) (hb : b < 2 ^ 64) : ∃ m : Nat, (partsN 52 11 b).mant = m := by
  have hp := parts64_num b hb
  generalize partsN 52 11 b = p at *
  split at hp
  · split at hp <;> (subst hp; exact ⟨0, rfl⟩)
  · split at hp
    · subst hp; exact ⟨_, rfl⟩
    · split at hp <;> (subst hp; first | exact ⟨_, rfl⟩ | exact ⟨0, rfl⟩)

theorem isN_refl (x : Nat) : isN x x = true := by unfold isN; cases nan64 x <;> simp


theorem realScales_easy (b m : Nat) (n : Int) (w : World) (hb : b < 2 ^ 64) (hm : (partsN 52 11 b).mant = m) (hk : (partsN 52 11 b).kind = 0 ∨ (partsN 52 11 b).kind = 3 ∨ (partsN 52 11 b).kind = 4) :
    Calls Try.prog 10 #[.int .u64 b, .int .i64 n] w fun en w' => en = .returned (.bool true) ∧ Below w.heap.size w w' := by
  have hs := scale_parts b m hb hm
  have h0 : m = 0 := hs.2.2.2.2 (by omega) (by omega)
  have hsc := fun w => scale_any b m n w hb hm (by omega) hs.2.1
  have hy : scaleN b m n = b := by unfold scaleN; rw [if_pos h0]
  rw [hy] at hsc
  have hp := fun w => refparts64 b w hb
  have hz : ∀ w, Calls Try.prog 21 #[] w fun en w' => en = .returned (.agg #[.int .i64 52, .int .i64 2047, .int .i64 1023]) ∧ Below w.heap.size w w' := fun w => size64_any w
  have hi := fun w => is_any b b w hb
  rw [isN_refl] at hi
  obtain ⟨k1, -⟩ := kind64 b hb
  have k2 := fne_self b
  have HSC := Lib.hid hsc; have HZ := Lib.hid hz; have HI := Lib.hid hi; clear hsc hz hi hs hy hm
  generalize partsN 52 11 b = p at *
  obtain ⟨pk, pn, pm, px, pq, pl⟩ := p
  simp only [FP.val] at hp hk k1
  have HP := Lib.hid hp; clear hp hb
  rcases hk with rfl | rfl | rfl
  · clear k1 k2
    go_enter Try.func10, Try.ntmps10
    go_wp2_with fail
    refine (awake_any _).mono ?_
    rintro en w2 ⟨rfl, hb2⟩
    have O := (Reg.Own.nil w).keep hb2
    have zz := O.rules
    have HO := Lib.hid O; clear O
    clear hb2
    go_wp2_with fail
    refine (HZ.out _).mono ?_
    rintro en wn ⟨rfl, hbn⟩
    have O := HO.out.keep hbn
    clear HO zz
    have zz := O.rules
    have HO := Lib.hid O; clear O
    clear hbn
    go_wp2_with fail
    refine (HP.out _).mono ?_
    rintro en wn ⟨rfl, hbn⟩
    have O := HO.out.keep hbn
    clear HO zz
    have zz := O.rules
    have HO := Lib.hid O; clear O
    clear hbn
    go_wp2_with fail
    refine (HSC.out _).mono ?_
    rintro en wn ⟨rfl, hbn⟩
    have O := (HO.out.alloc rfl _ _).keep hbn
    clear HO zz
    obtain ⟨c0, f0, z0, y0, -, zz⟩ := O.rules
    have HO := Lib.hid O; clear O
    clear hbn
    go_wp2_with fail
    refine (HI.out _).mono ?_
    rintro en wn ⟨rfl, hbn⟩
    go_wp2_with fail
    go_ret
    exact ⟨rfl, (HO.out.keep hbn).below⟩
  · clear k1 k2
    go_enter Try.func10, Try.ntmps10
    go_wp2_with fail
    refine (awake_any _).mono ?_
    rintro en w2 ⟨rfl, hb2⟩
    have O := (Reg.Own.nil w).keep hb2
    have zz := O.rules
    have HO := Lib.hid O; clear O
    clear hb2
    go_wp2_with fail
    refine (HZ.out _).mono ?_
    rintro en wn ⟨rfl, hbn⟩
    have O := HO.out.keep hbn
    clear HO zz
    have zz := O.rules
    have HO := Lib.hid O; clear O
    clear hbn
    go_wp2_with fail
    refine (HP.out _).mono ?_
    rintro en wn ⟨rfl, hbn⟩
    have O := HO.out.keep hbn
    clear HO zz
    have zz := O.rules
    have HO := Lib.hid O; clear O
    clear hbn
    go_wp2_with fail
    refine (HSC.out _).mono ?_
    rintro en wn ⟨rfl, hbn⟩
    have O := (HO.out.alloc rfl _ _).keep hbn
    clear HO zz
    obtain ⟨c0, f0, z0, y0, -, zz⟩ := O.rules
    have HO := Lib.hid O; clear O
    clear hbn
    go_wp2_with fail
    refine (HI.out _).mono ?_
    rintro en wn ⟨rfl, hbn⟩
    go_wp2_with fail
    go_ret
    exact ⟨rfl, (HO.out.keep hbn).below⟩
  · rw [← k1] at k2
    clear k1
    go_enter Try.func10, Try.ntmps10
    go_wp2_with fail
    refine (awake_any _).mono ?_
    rintro en w2 ⟨rfl, hb2⟩
    have O := (Reg.Own.nil w).keep hb2
    have zz := O.rules
    have HO := Lib.hid O; clear O
    clear hb2
    go_wp2_with fail
    refine (HZ.out _).mono ?_
    rintro en wn ⟨rfl, hbn⟩
    have O := HO.out.keep hbn
    clear HO zz
    have zz := O.rules
    have HO := Lib.hid O; clear O
    clear hbn
    go_wp2_with fail
    refine (HP.out _).mono ?_
    rintro en wn ⟨rfl, hbn⟩
    have O := HO.out.keep hbn
    clear HO zz
    have zz := O.rules
    have HO := Lib.hid O; clear O
    clear hbn
    go_wp2_with fail
    refine (HSC.out _).mono ?_
    rintro en wn ⟨rfl, hbn⟩
    have O := (HO.out.alloc rfl _ _).keep hbn
    clear HO zz
    obtain ⟨c0, f0, z0, y0, -, zz⟩ := O.rules
    have HO := Lib.hid O; clear O
    clear hbn
    go_wp2_with fail
    go_ret
    exact ⟨rfl, HO.out.below⟩




set_option maxHeartbeats 2000000 in
theorem realScales_hard (b m : Nat) (n B : Int) (w : World) (hb : b < 2 ^ 64) (hm : (partsN 52 11 b).mant = m) (hk : (partsN 52 11 b).kind = 1 ∨ (partsN 52 11 b).kind = 2)
    (hB : B = min (max n (-6000)) 6000) :
    Calls Try.prog 10 #[.int .u64 b, .int .i64 n] w fun en w' => en = .returned (.bool true) ∧ Below w.heap.size w w' := by
  obtain ⟨m53, hx, hm2, hm0, -⟩ := scale_parts b m hb hm
  have h0 : m ≠ 0 := hm0 hk
  have hE : -1074 ≤ (partsN 52 11 b).exp ∧ (partsN 52 11 b).exp ≤ 971 := by
    have hp := parts64_num b hb
    generalize partsN 52 11 b = p at *
    have h2 : b / 4503599627370496 % 2048 < 2048 := Nat.mod_lt _ (by omega)
    split at hp
    · split at hp <;> (subst hp; simp at hk)
    · split at hp
      · subst hp; simp; omega
      · split at hp <;> (subst hp; simp)
  have hsc := fun w => scale_any b m n w hb hm (by omega) hx
  obtain ⟨r, hr⟩ : ∃ r, r = rndN 52 11 m ((partsN 52 11 b).exp + B) := ⟨_, rfl⟩
  obtain ⟨y, hy⟩ : ∃ y, y = signedBits 52 11 (partsN 52 11 b).neg r := ⟨_, rfl⟩
  have hyb : y < 2 ^ 64 := by rw [hy]; exact (signed_lt _ r (by rw [hr]; have := rnd_lt m ((partsN 52 11 b).exp + B); omega)).1
  have hsy : scaleN b m n = y := by
    unfold scaleN; rw [if_neg h0, hy, hr, hB, scale_ref m _ n m53 h0 hE]
  rw [hsy] at hsc
  have hrd : ∀ w, Calls Try.prog 55 #[.bool (partsN 52 11 b).neg, .int .u64 m, .int .i64 ((partsN 52 11 b).exp + B), .bool false, .agg #[.int .i64 52, .int .i64 2047, .int .i64 1023]] w fun en w' => en = .returned (.int .u64 y) ∧ Below w.heap.size w w' := fun w => by
    have := refround_any 52 11 2047 1023 m ((partsN 52 11 b).exp + B) (partsN 52 11 b).neg false w (by omega) (by omega) (by omega) rfl rfl (by omega) (by simp) (by omega) (by omega)
    rw [show 4 * m + Bool.toNat false = 4 * m from rfl, rnd_four, ← hr, ← hy] at this
    exact this
  have hp := fun w => refparts64 b w hb
  have hq := fun w => refparts64 y w hyb
  have hz : ∀ w, Calls Try.prog 21 #[] w fun en w' => en = .returned (.agg #[.int .i64 52, .int .i64 2047, .int .i64 1023]) ∧ Below w.heap.size w w' := fun w => size64_any w
  have hi := fun w => is_any y y w hyb
  have hib := fun w => is_any b b w hb
  rw [isN_refl] at hi hib
  have hsc2 : (partsN 52 11 b).kind = 2 → (partsN 52 11 y).kind = 2 → (partsN 52 11 y).mant = m → ∀ w, Calls Try.prog 54 #[.float .f64 y, .int .i64 (-B)] w fun en w' => en = .returned (.float .f64 b) ∧ Below w.heap.size w w' := fun hkk h1 h2 w => by
    have hm52 := hm2 hkk
    rw [hy, hr] at h1 h2
    obtain ⟨g1, g2⟩ := scale_back m _ _ hm52 m53 h1 h2
    rw [← hr, ← hy] at g1 g2 h2
    have g3 : scaleN y m (-B) = b := by
      unfold scaleN; rw [if_neg h0, g1, g2, show (partsN 52 11 b).exp + B + limN (-B) = (partsN 52 11 b).exp by unfold limN; omega]
      exact parts_rnd b m hb hk hm
    have := scale_any y m (-B) w hyb h2 (by omega) (by rw [g1]; omega)
    rwa [g3] at this
  have HSC := Lib.hid hsc; have HZ := Lib.hid hz; have HI := Lib.hid hi; have HB := Lib.hid hib
  have hmm : min (max n (-6000)) 6000 = B := hB.symm
  have hBb : -6000 ≤ B ∧ B ≤ 6000 := by omega
  clear hsc hz hi hib hsy hx hm2 hm0 h0 hr hy hyb hB
  generalize partsN 52 11 b = p at *
  generalize partsN 52 11 y = q at *
  obtain ⟨pk, pn, pm, px, pq, pl⟩ := p
  obtain ⟨qk, qn, qm, qx, qq, ql⟩ := q
  simp only [FP.val] at hp hq hk hrd hm hE
  simp only at hsc2
  subst hm
  have HP := Lib.hid hp; have HQ := Lib.hid hq; have HR := Lib.hid hrd; clear hp hq hrd hb
  clear m53
  rcases hk with rfl | rfl
  · clear hsc2
    go_enter Try.func10, Try.ntmps10
    go_wp2_with fail
    refine (awake_any _).mono ?_
    rintro en w2 ⟨rfl, hb2⟩
    have O := (Reg.Own.nil w).keep hb2
    have zz := O.rules
    have HO := Lib.hid O; clear O
    clear hb2
    go_wp2_with fail
    refine (HZ.out _).mono ?_
    rintro en wn ⟨rfl, hbn⟩
    have O := HO.out.keep hbn
    clear HO zz
    have zz := O.rules
    have HO := Lib.hid O; clear O
    clear hbn
    go_wp2_with fail
    refine (HP.out _).mono ?_
    rintro en wn ⟨rfl, hbn⟩
    have O := HO.out.keep hbn
    clear HO zz
    have zz := O.rules
    have HO := Lib.hid O; clear O
    clear hbn
    go_wp2_with fail
    refine (HSC.out _).mono ?_
    rintro en wn ⟨rfl, hbn⟩
    have O := (HO.out.alloc rfl _ _).keep hbn
    clear HO zz
    obtain ⟨c0, f0, z0, y0, -, zz⟩ := O.rules
    have HO := Lib.hid O; clear O
    clear hbn
    go_wp2_with fail
    refine Reg.wp_region_rd (by kernel_rfl) (by kernel_rfl) (fun _ => ?_)
    repeat (refine Reg.rd_op rfl ?_; apply Exists.intro; apply And.intro; (intro w' hb; have hc := Reg.rd_cells hb; clear hb; go_simp; (try go_bits); first | done | (with_reducible exact rfl)); (intro _ a' ha'; simp only [Act.put, List.setIfInBounds_toArray, List.set_cons_zero, List.set_cons_succ] at ha'; subst ha'))
    refine Reg.rd_op rfl ?_; apply Exists.intro; apply And.intro
    · intro w' hb; have hsz := Reg.rd_size hb; clear hb; go_simp; (try go_bits); exact HZ.out _
    intro _ a' ha'; simp only [Act.put, List.setIfInBounds_toArray, List.set_cons_zero, List.set_cons_succ] at ha'; subst ha'
    repeat (refine Reg.rd_op rfl ?_; apply Exists.intro; apply And.intro; (intro w' hb; have hc := Reg.rd_cells hb; clear hb; go_simp; (try go_bits); first | done | (with_reducible exact rfl)); (intro _ a' ha'; simp only [Act.put, List.setIfInBounds_toArray, List.set_cons_zero, List.set_cons_succ] at ha'; subst ha'))
    refine Reg.rd_op rfl ?_; apply Exists.intro; apply And.intro
    · intro w' hb; have hsz := Reg.rd_size hb; clear hb; go_simp; (try go_bits); with_reducible exact HR.out _
    intro _ a' ha'; simp only [Act.put, List.setIfInBounds_toArray, List.set_cons_zero, List.set_cons_succ] at ha'; subst ha'
    repeat (refine Reg.rd_op rfl ?_; apply Exists.intro; apply And.intro; (intro w' hb; have hc := Reg.rd_cells hb; clear hb; go_simp; (try go_bits); first | done | (with_reducible exact rfl)); (intro _ a' ha'; simp only [Act.put, List.setIfInBounds_toArray, List.set_cons_zero, List.set_cons_succ] at ha'; subst ha'))
    refine Reg.rd_op rfl ?_; apply Exists.intro; apply And.intro
    · intro w' hb; have hsz := Reg.rd_size hb; clear hb; go_simp; (try go_bits); with_reducible exact HI.out _
    intro _ a' ha'; simp only [Act.put, List.setIfInBounds_toArray, List.set_cons_zero, List.set_cons_succ] at ha'; subst ha'
    repeat (refine Reg.rd_op rfl ?_; apply Exists.intro; apply And.intro; (intro w' hb; have hc := Reg.rd_cells hb; clear hb; go_simp; (try go_bits); first | done | (with_reducible exact rfl)); (intro _ a' ha'; simp only [Act.put, List.setIfInBounds_toArray, List.set_cons_zero, List.set_cons_succ] at ha'; subst ha'))
    refine Reg.rd_end (fun wz hb6 => ?_)
    have O := HO.out.keep hb6
    clear HO c0 f0 z0 y0 zz
    obtain ⟨c0, f0, z0, y0, -, zz⟩ := O.rules
    have HO := Lib.hid O; clear O
    clear hb6
    go_wp2_with fail
    refine (HZ.out _).mono ?_
    rintro en wn ⟨rfl, hbn⟩
    have O := HO.out.keep hbn
    clear HO c0 f0 z0 y0 zz
    obtain ⟨c0, f0, z0, y0, -, zz⟩ := O.rules
    have HO := Lib.hid O; clear O
    clear hbn
    go_wp2_with fail
    refine (HQ.out _).mono ?_
    rintro en wn ⟨rfl, hbn⟩
    have O := HO.out.keep hbn
    clear HO c0 f0 z0 y0 zz
    obtain ⟨c0, f0, z0, y0, -, zz⟩ := O.rules
    have HO := Lib.hid O; clear O
    clear hbn
    go_wp2_with fail
    go_ret
    exact ⟨rfl, HO.out.below.alloc HO.out.size _⟩
  · replace hsc2 := hsc2 rfl
    cases hqk : (qk == 2)
    · have e1 : (qk != 2) = true := by simp at hqk ⊢; exact hqk
      clear hqk
      go_enter Try.func10, Try.ntmps10
      go_wp2_with fail
      refine (awake_any _).mono ?_
      rintro en w2 ⟨rfl, hb2⟩
      have O := (Reg.Own.nil w).keep hb2
      have zz := O.rules
      have HO := Lib.hid O; clear O
      clear hb2
      go_wp2_with fail
      refine (HZ.out _).mono ?_
      rintro en wn ⟨rfl, hbn⟩
      have O := HO.out.keep hbn
      clear HO zz
      have zz := O.rules
      have HO := Lib.hid O; clear O
      clear hbn
      go_wp2_with fail
      refine (HP.out _).mono ?_
      rintro en wn ⟨rfl, hbn⟩
      have O := HO.out.keep hbn
      clear HO zz
      have zz := O.rules
      have HO := Lib.hid O; clear O
      clear hbn
      go_wp2_with fail
      refine (HSC.out _).mono ?_
      rintro en wn ⟨rfl, hbn⟩
      have O := (HO.out.alloc rfl _ _).keep hbn
      clear HO zz
      obtain ⟨c0, f0, z0, y0, -, zz⟩ := O.rules
      have HO := Lib.hid O; clear O
      clear hbn
      go_wp2_with fail
      refine Reg.wp_region_rd (by kernel_rfl) (by kernel_rfl) (fun _ => ?_)
      repeat (refine Reg.rd_op rfl ?_; apply Exists.intro; apply And.intro; (intro w' hb; have hc := Reg.rd_cells hb; clear hb; go_simp; (try go_bits); first | done | (with_reducible exact rfl)); (intro _ a' ha'; simp only [Act.put, List.setIfInBounds_toArray, List.set_cons_zero, List.set_cons_succ] at ha'; subst ha'))
      refine Reg.rd_op rfl ?_; apply Exists.intro; apply And.intro
      · intro w' hb; have hsz := Reg.rd_size hb; clear hb; go_simp; (try go_bits); exact HZ.out _
      intro _ a' ha'; simp only [Act.put, List.setIfInBounds_toArray, List.set_cons_zero, List.set_cons_succ] at ha'; subst ha'
      repeat (refine Reg.rd_op rfl ?_; apply Exists.intro; apply And.intro; (intro w' hb; have hc := Reg.rd_cells hb; clear hb; go_simp; (try go_bits); first | done | (with_reducible exact rfl)); (intro _ a' ha'; simp only [Act.put, List.setIfInBounds_toArray, List.set_cons_zero, List.set_cons_succ] at ha'; subst ha'))
      refine Reg.rd_op rfl ?_; apply Exists.intro; apply And.intro
      · intro w' hb; have hsz := Reg.rd_size hb; clear hb; go_simp; (try go_bits); with_reducible exact HR.out _
      intro _ a' ha'; simp only [Act.put, List.setIfInBounds_toArray, List.set_cons_zero, List.set_cons_succ] at ha'; subst ha'
      repeat (refine Reg.rd_op rfl ?_; apply Exists.intro; apply And.intro; (intro w' hb; have hc := Reg.rd_cells hb; clear hb; go_simp; (try go_bits); first | done | (with_reducible exact rfl)); (intro _ a' ha'; simp only [Act.put, List.setIfInBounds_toArray, List.set_cons_zero, List.set_cons_succ] at ha'; subst ha'))
      refine Reg.rd_op rfl ?_; apply Exists.intro; apply And.intro
      · intro w' hb; have hsz := Reg.rd_size hb; clear hb; go_simp; (try go_bits); with_reducible exact HI.out _
      intro _ a' ha'; simp only [Act.put, List.setIfInBounds_toArray, List.set_cons_zero, List.set_cons_succ] at ha'; subst ha'
      repeat (refine Reg.rd_op rfl ?_; apply Exists.intro; apply And.intro; (intro w' hb; have hc := Reg.rd_cells hb; clear hb; go_simp; (try go_bits); first | done | (with_reducible exact rfl)); (intro _ a' ha'; simp only [Act.put, List.setIfInBounds_toArray, List.set_cons_zero, List.set_cons_succ] at ha'; subst ha'))
      refine Reg.rd_end (fun wz hb6 => ?_)
      have O := HO.out.keep hb6
      clear HO c0 f0 z0 y0 zz
      obtain ⟨c0, f0, z0, y0, -, zz⟩ := O.rules
      have HO := Lib.hid O; clear O
      clear hb6
      go_wp2_with fail
      refine (HZ.out _).mono ?_
      rintro en wn ⟨rfl, hbn⟩
      have O := HO.out.keep hbn
      clear HO c0 f0 z0 y0 zz
      obtain ⟨c0, f0, z0, y0, -, zz⟩ := O.rules
      have HO := Lib.hid O; clear O
      clear hbn
      go_wp2_with fail
      refine (HQ.out _).mono ?_
      rintro en wn ⟨rfl, hbn⟩
      have O := HO.out.keep hbn
      clear HO c0 f0 z0 y0 zz
      obtain ⟨c0, f0, z0, y0, -, zz⟩ := O.rules
      have HO := Lib.hid O; clear O
      clear hbn
      go_wp2_with fail
      go_ret
      exact ⟨rfl, HO.out.below.alloc HO.out.size _⟩
    · have e1 : (qk != 2) = false := by simp at hqk ⊢; exact hqk
      cases hqm : (qm == (m : Int))
      · have e2 : (qm != (m : Int)) = true := by simp at hqm ⊢; exact hqm
        clear hqk hqm
        go_enter Try.func10, Try.ntmps10
        go_wp2_with fail
        refine (awake_any _).mono ?_
        rintro en w2 ⟨rfl, hb2⟩
        have O := (Reg.Own.nil w).keep hb2
        have zz := O.rules
        have HO := Lib.hid O; clear O
        clear hb2
        go_wp2_with fail
        refine (HZ.out _).mono ?_
        rintro en wn ⟨rfl, hbn⟩
        have O := HO.out.keep hbn
        clear HO zz
        have zz := O.rules
        have HO := Lib.hid O; clear O
        clear hbn
        go_wp2_with fail
        refine (HP.out _).mono ?_
        rintro en wn ⟨rfl, hbn⟩
        have O := HO.out.keep hbn
        clear HO zz
        have zz := O.rules
        have HO := Lib.hid O; clear O
        clear hbn
        go_wp2_with fail
        refine (HSC.out _).mono ?_
        rintro en wn ⟨rfl, hbn⟩
        have O := (HO.out.alloc rfl _ _).keep hbn
        clear HO zz
        obtain ⟨c0, f0, z0, y0, -, zz⟩ := O.rules
        have HO := Lib.hid O; clear O
        clear hbn
        go_wp2_with fail
        refine Reg.wp_region_rd (by kernel_rfl) (by kernel_rfl) (fun _ => ?_)
        repeat (refine Reg.rd_op rfl ?_; apply Exists.intro; apply And.intro; (intro w' hb; have hc := Reg.rd_cells hb; clear hb; go_simp; (try go_bits); first | done | (with_reducible exact rfl)); (intro _ a' ha'; simp only [Act.put, List.setIfInBounds_toArray, List.set_cons_zero, List.set_cons_succ] at ha'; subst ha'))
        refine Reg.rd_op rfl ?_; apply Exists.intro; apply And.intro
        · intro w' hb; have hsz := Reg.rd_size hb; clear hb; go_simp; (try go_bits); exact HZ.out _
        intro _ a' ha'; simp only [Act.put, List.setIfInBounds_toArray, List.set_cons_zero, List.set_cons_succ] at ha'; subst ha'
        repeat (refine Reg.rd_op rfl ?_; apply Exists.intro; apply And.intro; (intro w' hb; have hc := Reg.rd_cells hb; clear hb; go_simp; (try go_bits); first | done | (with_reducible exact rfl)); (intro _ a' ha'; simp only [Act.put, List.setIfInBounds_toArray, List.set_cons_zero, List.set_cons_succ] at ha'; subst ha'))
        refine Reg.rd_op rfl ?_; apply Exists.intro; apply And.intro
        · intro w' hb; have hsz := Reg.rd_size hb; clear hb; go_simp; (try go_bits); with_reducible exact HR.out _
        intro _ a' ha'; simp only [Act.put, List.setIfInBounds_toArray, List.set_cons_zero, List.set_cons_succ] at ha'; subst ha'
        repeat (refine Reg.rd_op rfl ?_; apply Exists.intro; apply And.intro; (intro w' hb; have hc := Reg.rd_cells hb; clear hb; go_simp; (try go_bits); first | done | (with_reducible exact rfl)); (intro _ a' ha'; simp only [Act.put, List.setIfInBounds_toArray, List.set_cons_zero, List.set_cons_succ] at ha'; subst ha'))
        refine Reg.rd_op rfl ?_; apply Exists.intro; apply And.intro
        · intro w' hb; have hsz := Reg.rd_size hb; clear hb; go_simp; (try go_bits); with_reducible exact HI.out _
        intro _ a' ha'; simp only [Act.put, List.setIfInBounds_toArray, List.set_cons_zero, List.set_cons_succ] at ha'; subst ha'
        repeat (refine Reg.rd_op rfl ?_; apply Exists.intro; apply And.intro; (intro w' hb; have hc := Reg.rd_cells hb; clear hb; go_simp; (try go_bits); first | done | (with_reducible exact rfl)); (intro _ a' ha'; simp only [Act.put, List.setIfInBounds_toArray, List.set_cons_zero, List.set_cons_succ] at ha'; subst ha'))
        refine Reg.rd_end (fun wz hb6 => ?_)
        have O := HO.out.keep hb6
        clear HO c0 f0 z0 y0 zz
        obtain ⟨c0, f0, z0, y0, -, zz⟩ := O.rules
        have HO := Lib.hid O; clear O
        clear hb6
        go_wp2_with fail
        refine (HZ.out _).mono ?_
        rintro en wn ⟨rfl, hbn⟩
        have O := HO.out.keep hbn
        clear HO c0 f0 z0 y0 zz
        obtain ⟨c0, f0, z0, y0, -, zz⟩ := O.rules
        have HO := Lib.hid O; clear O
        clear hbn
        go_wp2_with fail
        refine (HQ.out _).mono ?_
        rintro en wn ⟨rfl, hbn⟩
        have O := HO.out.keep hbn
        clear HO c0 f0 z0 y0 zz
        obtain ⟨c0, f0, z0, y0, -, zz⟩ := O.rules
        have HO := Lib.hid O; clear O
        clear hbn
        go_wp2_with fail
        go_ret
        exact ⟨rfl, HO.out.below.alloc HO.out.size _⟩
      · have e2 : (qm != (m : Int)) = false := by simp at hqm ⊢; exact hqm
        have HS2 := Lib.hid (hsc2 (by simpa using hqk) (by simpa using hqm))
        clear hqk hqm hsc2
        go_enter Try.func10, Try.ntmps10
        go_wp2_with fail
        refine (awake_any _).mono ?_
        rintro en w2 ⟨rfl, hb2⟩
        have O := (Reg.Own.nil w).keep hb2
        have zz := O.rules
        have HO := Lib.hid O; clear O
        clear hb2
        go_wp2_with fail
        refine (HZ.out _).mono ?_
        rintro en wn ⟨rfl, hbn⟩
        have O := HO.out.keep hbn
        clear HO zz
        have zz := O.rules
        have HO := Lib.hid O; clear O
        clear hbn
        go_wp2_with fail
        refine (HP.out _).mono ?_
        rintro en wn ⟨rfl, hbn⟩
        have O := HO.out.keep hbn
        clear HO zz
        have zz := O.rules
        have HO := Lib.hid O; clear O
        clear hbn
        go_wp2_with fail
        refine (HSC.out _).mono ?_
        rintro en wn ⟨rfl, hbn⟩
        have O := (HO.out.alloc rfl _ _).keep hbn
        clear HO zz
        obtain ⟨c0, f0, z0, y0, -, zz⟩ := O.rules
        have HO := Lib.hid O; clear O
        clear hbn
        go_wp2_with fail
        refine Reg.wp_region_rd (by kernel_rfl) (by kernel_rfl) (fun _ => ?_)
        repeat (refine Reg.rd_op rfl ?_; apply Exists.intro; apply And.intro; (intro w' hb; have hc := Reg.rd_cells hb; clear hb; go_simp; (try go_bits); first | done | (with_reducible exact rfl)); (intro _ a' ha'; simp only [Act.put, List.setIfInBounds_toArray, List.set_cons_zero, List.set_cons_succ] at ha'; subst ha'))
        refine Reg.rd_op rfl ?_; apply Exists.intro; apply And.intro
        · intro w' hb; have hsz := Reg.rd_size hb; clear hb; go_simp; (try go_bits); exact HZ.out _
        intro _ a' ha'; simp only [Act.put, List.setIfInBounds_toArray, List.set_cons_zero, List.set_cons_succ] at ha'; subst ha'
        repeat (refine Reg.rd_op rfl ?_; apply Exists.intro; apply And.intro; (intro w' hb; have hc := Reg.rd_cells hb; clear hb; go_simp; (try go_bits); first | done | (with_reducible exact rfl)); (intro _ a' ha'; simp only [Act.put, List.setIfInBounds_toArray, List.set_cons_zero, List.set_cons_succ] at ha'; subst ha'))
        refine Reg.rd_op rfl ?_; apply Exists.intro; apply And.intro
        · intro w' hb; have hsz := Reg.rd_size hb; clear hb; go_simp; (try go_bits); with_reducible exact HR.out _
        intro _ a' ha'; simp only [Act.put, List.setIfInBounds_toArray, List.set_cons_zero, List.set_cons_succ] at ha'; subst ha'
        repeat (refine Reg.rd_op rfl ?_; apply Exists.intro; apply And.intro; (intro w' hb; have hc := Reg.rd_cells hb; clear hb; go_simp; (try go_bits); first | done | (with_reducible exact rfl)); (intro _ a' ha'; simp only [Act.put, List.setIfInBounds_toArray, List.set_cons_zero, List.set_cons_succ] at ha'; subst ha'))
        refine Reg.rd_op rfl ?_; apply Exists.intro; apply And.intro
        · intro w' hb; have hsz := Reg.rd_size hb; clear hb; go_simp; (try go_bits); with_reducible exact HI.out _
        intro _ a' ha'; simp only [Act.put, List.setIfInBounds_toArray, List.set_cons_zero, List.set_cons_succ] at ha'; subst ha'
        repeat (refine Reg.rd_op rfl ?_; apply Exists.intro; apply And.intro; (intro w' hb; have hc := Reg.rd_cells hb; clear hb; go_simp; (try go_bits); first | done | (with_reducible exact rfl)); (intro _ a' ha'; simp only [Act.put, List.setIfInBounds_toArray, List.set_cons_zero, List.set_cons_succ] at ha'; subst ha'))
        refine Reg.rd_end (fun wz hb6 => ?_)
        have O := HO.out.keep hb6
        clear HO c0 f0 z0 y0 zz
        obtain ⟨c0, f0, z0, y0, -, zz⟩ := O.rules
        have HO := Lib.hid O; clear O
        clear hb6
        go_wp2_with fail
        refine (HZ.out _).mono ?_
        rintro en wn ⟨rfl, hbn⟩
        have O := HO.out.keep hbn
        clear HO c0 f0 z0 y0 zz
        obtain ⟨c0, f0, z0, y0, -, zz⟩ := O.rules
        have HO := Lib.hid O; clear O
        clear hbn
        go_wp2_with fail
        refine (HQ.out _).mono ?_
        rintro en wn ⟨rfl, hbn⟩
        have O := HO.out.keep hbn
        clear HO c0 f0 z0 y0 zz
        obtain ⟨c0, f0, z0, y0, -, zz⟩ := O.rules
        have HO := Lib.hid O; clear O
        clear hbn
        go_wp2_with fail
        refine (HS2.out _).mono ?_
        rintro en wn ⟨rfl, hbn⟩
        have O := (HO.out.alloc rfl _ _).keep hbn
        clear HO c0 f0 z0 y0 zz
        obtain ⟨c1, f1, z1, y1, ⟨n10, -⟩, c0, f0, z0, y0, -, zz⟩ := O.rules
        have HO := Lib.hid O; clear O
        clear hbn
        go_wp2_with fail
        refine (HB.out _).mono ?_
        rintro en wn ⟨rfl, hbn⟩
        go_wp2_with fail
        go_ret
        exact ⟨rfl, (HO.out.keep hbn).below⟩

theorem realScales_walk (b : Nat) (n : Int) (w : World) (hb : b < 2 ^ 64) :
    Calls Try.prog 10 #[.int .u64 b, .int .i64 n] w fun en w' => en = .returned (.bool true) ∧ Below w.heap.size w w' := by
  obtain ⟨m, hm⟩ := mant_nat b hb
  rcases kind_range b hb with h | h | h | h | h
  · exact realScales_easy b m n w hb hm (.inl h)
  · exact realScales_hard b m n _ w hb hm (.inl h) rfl
  · exact realScales_hard b m n _ w hb hm (.inr h) rfl
  · exact realScales_easy b m n w hb hm (.inr (.inl h))
  · exact realScales_easy b m n w hb hm (.inr (.inr h))

theorem realScales_own : ownKnob Try.prog.godebug = none := by kernel_rfl
theorem realScales_laid : laidOutB Try.prog = true := by kernel_rfl
theorem realScales_types : ∀ t ∈ ([22, 3] : List TypeId), Try.prog.readableRec t = true ∧ t < Try.prog.types.size := by
  simp only [List.mem_cons, List.not_mem_nil, or_false, forall_eq_or_imp, forall_eq]
  exact ⟨⟨by kernel_rfl, of_decide_eq_true (by kernel_rfl)⟩, ⟨by kernel_rfl, of_decide_eq_true (by kernel_rfl)⟩⟩
set_option maxRecDepth 100000 in
theorem realScales_lifted (os : Os) (started : os.Started) (H : Type) (enc : TypeId × Value → H) :
    ReturnsInHanded {} Try.checked os 10 .any (Rows.realScalesSpec.pre6 enc Try.prog Try.f10 Rows.realScalesRow.domain false) (Rows.realScalesSpec.post enc Try.prog Try.f10 false true false false) := by
  refine returnsInHanded_of_change (C := Try.checked) realScales_own started (by kernel_rfl) Try.func10
    (ChangeSpec.witness6 (enc := enc) (C := Try.checked) false ⟨#[], #[.int .u64 0, .int .i64 0], []⟩ 8 (by kernel_rfl) (by kernel_rfl) (by kernel_rfl) (by kernel_rfl)) ?_
  intro W base args ds gs before hval0 hW hcnd hsz
  have hval : ∀ (j : Nat) t v, Try.f10.params[j]? = some t → args[j]? = some v → Value.okWide Try.prog W .any base t v := hval0
  have hW' := hW
  obtain ⟨p, q, hA0, hV, rfl, hfz, hnd⟩ := hW
  have hA : DataW.TrodAll enc Try.prog W 0 (fun _ => true) true Try.f10.params.toList args.toList ds p := hA0
  obtain ⟨rfl, rfl⟩ := trodVars_none hV
  have hpost : ∀ W', Below W.heap.size W W' → Rows.realScalesSpec.post enc Try.prog Try.f10 false true false false W args (.bool true) W' := fun W' hb => by
    have hlen : ds.length = 2 := by have hh := hA; rw [Try.params10] at hh; obtain ⟨_, _, d0, ds0, _, _, _, rfl, _, _, hh⟩ := trodAll_cons hh; obtain ⟨_, _, d1, ds1, _, _, _, rfl, _, _, hh⟩ := trodAll_cons hh; obtain ⟨_, rfl, _⟩ := trodAll_nil hh; simp
    obtain ⟨e0, e1, rfl⟩ : ∃ e0 e1, ds = [e0, e1] := by match ds, hlen with | [e0, e1], _ => exact ⟨e0, e1, rfl⟩
    exact law_post realScales_laid rfl hW' (by rw [Try.params10]; exact realScales_types) (tb := 4) (by kernel_rfl) Try.underlying4 rfl rfl rfl hb
  rw [Try.params10] at hA hval
  obtain ⟨v0, vs0, d0, ds0, p0, q0, hargs, rfl, rfl, h0, r0⟩ := trodAll_cons hA
  obtain ⟨v1, vs1, d1, ds1, p1, q1, rfl, rfl, rfl, h1, r1⟩ := trodAll_cons r0
  obtain ⟨rfl, rfl, rfl⟩ := trodAll_nil r1
  obtain rfl : args = #[v0, v1] := by cases args; simp_all
  obtain ⟨b, rfl, rfl, rfl, w0⟩ := open_int Try.underlying22 (hval 0 22 v0 rfl rfl) h0
  obtain ⟨n, rfl, rfl, rfl, w1⟩ := open_int Try.underlying3 (hval 1 3 v1 rfl rfl) h1
  obtain ⟨b, rfl, hb⟩ := wf_u64 w0
  refine (realScales_walk b n W hb).mono fun e W' ⟨he, hg⟩ => ?_
  subst he
  exact ⟨_, rfl, hpost _ hg⟩

theorem realScales_holds : Rows.RealScalesSaid :=
  OpenClaim.holds_of_wide 10 Try.f10 rfl rfl rfl rfl rfl rfl rfl ⟨rfl, rfl, rfl, rfl, rfl⟩ rfl rfl rfl rfl rfl (by kernel_rfl) Try.func10 (by kernel_rfl)
    (of_decide_eq_true (by kernel_rfl)) (by unfold Func.isWrapper; first | (rw [if_pos (by decide +kernel)]; kernel_rfl) | (rw [if_neg (by decide +kernel)]; exact ⟨rfl, rfl⟩))
    (fun os started H enc _ => realScales_lifted os started H enc)
#print axioms realScales_holds

end Go.Proofs.Ytpemchghaddgdaa
