/- Every Half, Brain, FromHalf, FromBrain and Bits is what the document says: the law RealFormats returns true for every input. No condition. -/
import Derived.Test.YtpemchghaddgdaaHd
import Derived.Test.YtpemchghaddgdaaLaw
namespace Go.Proofs.Ytpemchghaddgdaa
open Go.RowKit Go.Pst Go.ChangeShapes Go.WideShapes Go.ChangeAt Go.Joins Go.Deep
set_option maxRecDepth 20000
set_option linter.unusedSimpArgs false
set_option linter.unusedVariables false
attribute [local go_sem] x64bits x64from


set_option maxHeartbeats 4000000 in
theorem realFormats_walk (b h : Nat) (p : Int) (w : World) (hb : b < 2 ^ 64) (hh16 : h < 65536) :
    Calls Try.prog 14 #[.int .u64 b, .int .u16 h, .int .i64 p] w fun en w' => en = .returned (.bool true) ∧ Below w.heap.size w w' := by
  have hh := fun w => half_of_any b w hb
  have hb' := fun w => brain_of_any b w hb
  have hi1 : ∀ w, Calls Try.prog 65 #[.int .u64 b, .agg #[.int .i64 10, .int .i64 31, .int .i64 15]] w fun en w' => en = .returned (.int .u64 (intoN 10 5 (NQ 10 5) b)) ∧ Below w.heap.size w w' := fun w => into_any 10 5 31 15 b w (by omega) (by omega) (by omega) (by omega) rfl rfl hb
  have hi2 : ∀ w, Calls Try.prog 65 #[.int .u64 b, .agg #[.int .i64 7, .int .i64 255, .int .i64 127]] w fun en w' => en = .returned (.int .u64 (intoN 7 8 (NQ 7 8) b)) ∧ Below w.heap.size w w' := fun w => into_any 7 8 255 127 b w (by omega) (by omega) (by omega) (by omega) rfl rfl hb
  have hf1 := fun w => from_half_any h w hh16
  have hf2 := fun w => from_brain_any h w hh16
  have hr1 : ∀ w, Calls Try.prog 68 #[.int .u64 h, .agg #[.int .i64 10, .int .i64 31, .int .i64 15]] w fun en w' => en = .returned (.int .u64 (fromN 10 5 NN0 h)) ∧ Below w.heap.size w w' := fun w => from_any 10 5 31 15 h w (by omega) (by omega) (by omega) (by omega) rfl rfl hh16
  have hr2 : ∀ w, Calls Try.prog 68 #[.int .u64 h, .agg #[.int .i64 7, .int .i64 255, .int .i64 127]] w fun en w' => en = .returned (.int .u64 (fromN 7 8 NN0 h)) ∧ Below w.heap.size w w' := fun w => from_any 7 8 255 127 h w (by omega) (by omega) (by omega) (by omega) rfl rfl hh16
  have is1 := fun w => is_any (fromN 10 5 NN1 h) (fromN 10 5 NN0 h) w (from_lt0 10 5 h)
  have is2 := fun w => is_any (fromN 7 8 NN1 h) (fromN 7 8 NN0 h) w (from_lt0 7 8 h)
  simp only [is_from] at is1 is2
  have h16 : ∀ w, Calls Try.prog 66 #[] w fun en w' => en = .returned (.agg #[.int .i64 10, .int .i64 31, .int .i64 15]) ∧ Below w.heap.size w w' := fun w => size16_any w
  have hbz : ∀ w, Calls Try.prog 67 #[] w fun en w' => en = .returned (.agg #[.int .i64 7, .int .i64 255, .int .i64 127]) ∧ Below w.heap.size w w' := fun w => sizeb_any w
  have hbo := fun w => bits_out b p w
  have hbi := fun f w h1 h2 => bits_in b f w h1 h2 hb
  have hrb := fun f w h1 h2 => rbits_in b f w h1 h2 hb (nq_lt f h1 h2)
  have e1 := fne_self b
  have l1 : intoN 10 5 32256 b < 2 ^ 16 := into_lt (f := 10) (e := 5) 32256 b (by omega) (by decide)
  have l2 : intoN 7 8 32704 b < 2 ^ 16 := into_lt (f := 7) (e := 8) 32704 b (by omega) (by decide)
  have w1 := wrapU (intoN 10 5 32256 b) (by omega)
  have w2 := wrapU (intoN 7 8 32704 b) (by omega)
  have w3 := wrapU h (by omega)
  have q1 : nan64 b = false → intoN 10 5 (NQ 10 5) b = intoN 10 5 32256 b := fun hn => into_nn _ _ _ _ _ hn
  have q2 : nan64 b = false → intoN 7 8 (NQ 7 8) b = intoN 7 8 32704 b := fun hn => into_nn _ _ _ _ _ hn
  have t1 : nan64 b = true → intoN 10 5 32256 b = 32256 := fun hn => by unfold intoN; rw [hn, if_pos rfl]
  have t2 : nan64 b = true → intoN 7 8 32704 b = 32704 := fun hn => by unfold intoN; rw [hn, if_pos rfl]
  have isb : ∀ f, nan64 b = false → isN (bitsN b f) (rbitsN b f) = true := fun f hn => is_bits f b hn
  have isl : ∀ f, rbitsN b f < 2 ^ 64 := fun f => from_lt0 _ _ _
  have hisb := fun x w => is_any x b w hb
  have hisr := fun x f w => is_any x (rbitsN b f) w (isl f)
  clear isl
  have H16 := Lib.hid h16; have HBZ := Lib.hid hbz; have HF1 := Lib.hid hf1; have HF2 := Lib.hid hf2; have HR1 := Lib.hid hr1; have HR2 := Lib.hid hr2; have IS1 := Lib.hid is1; have IS2 := Lib.hid is2
  clear h16 hbz hf1 hf2 hr1 hr2 is1 is2
  generalize intoN 10 5 (NQ 10 5) b = r1 at *
  generalize intoN 7 8 (NQ 7 8) b = r2 at *
  generalize intoN 10 5 32256 b = a1 at *
  generalize intoN 7 8 32704 b = a2 at *
  generalize fromN 10 5 NN1 h = x1 at *
  generalize fromN 10 5 NN0 h = y1 at *
  generalize fromN 7 8 NN1 h = x2 at *
  generalize fromN 7 8 NN0 h = y2 at *
  clear hb hh16 l1 l2
  have P : (p < 2 ∨ 53 < p) ∨ ∃ f : Nat, p = f + 1 ∧ 1 ≤ f ∧ f ≤ 52 := by
    by_cases h1 : p < 2 ∨ 53 < p
    · exact .inl h1
    · exact .inr ⟨(p - 1).toNat, by omega, by omega, by omega⟩
  cases hn : nan64 b
  · rw [hn] at e1
    obtain rfl := q1 hn
    obtain rfl := q2 hn
    clear q1 q2 t1 t2
    rcases P with hp | ⟨f, rfl, g1, g2⟩
    · have HBO := Lib.hid fun w => hbo w hp
      clear hbo hbi hrb isb hisb hisr hn
      rcases hp with hp | hp
      ·
        have HH := Lib.hid hh; have HB := Lib.hid hb'; have HI1 := Lib.hid hi1; have HI2 := Lib.hid hi2
        clear hh hb' hi1 hi2
        go_enter Try.func14, Try.ntmps14
        go_wp2_with fail
        have O := Reg.Own.nil w
        have zz := O.rules
        have HO := Lib.hid O; clear O
        refine (awake_any _).mono ?_
        rintro en wn ⟨rfl, hbn⟩
        have O := HO.out.keep hbn
        clear HO zz
        have zz := O.rules
        have HO := Lib.hid O; clear O
        clear hbn
        go_wp2_with fail
        refine (H16.out _).mono ?_
        rintro en wn ⟨rfl, hbn⟩
        have O := HO.out.keep hbn
        clear HO zz
        have zz := O.rules
        have HO := Lib.hid O; clear O
        clear hbn
        go_wp2_with fail
        refine (HI1.out _).mono ?_
        rintro en wn ⟨rfl, hbn⟩
        have O := HO.out.keep hbn
        clear HO zz
        have zz := O.rules
        have HO := Lib.hid O; clear O
        clear hbn
        go_wp2_with fail
        refine (HBZ.out _).mono ?_
        rintro en wn ⟨rfl, hbn⟩
        have O := HO.out.keep hbn
        clear HO zz
        have zz := O.rules
        have HO := Lib.hid O; clear O
        clear hbn
        go_wp2_with fail
        refine (HI2.out _).mono ?_
        rintro en wn ⟨rfl, hbn⟩
        have O := HO.out.keep hbn
        clear HO zz
        have zz := O.rules
        have HO := Lib.hid O; clear O
        clear hbn
        go_wp2_with fail
        refine (HH.out _).mono ?_
        rintro en wn ⟨rfl, hbn⟩
        have O := HO.out.keep hbn
        clear HO zz
        have zz := O.rules
        have HO := Lib.hid O; clear O
        clear hbn
        go_wp2_with fail
        refine (HB.out _).mono ?_
        rintro en wn ⟨rfl, hbn⟩
        have O := HO.out.keep hbn
        clear HO zz
        have zz := O.rules
        have HO := Lib.hid O; clear O
        clear hbn
        go_wp2_with fail
        refine (HF1.out _).mono ?_
        rintro en wn ⟨rfl, hbn⟩
        have O := HO.out.keep hbn
        clear HO zz
        have zz := O.rules
        have HO := Lib.hid O; clear O
        clear hbn
        go_wp2_with fail
        refine (H16.out _).mono ?_
        rintro en wn ⟨rfl, hbn⟩
        have O := HO.out.keep hbn
        clear HO zz
        have zz := O.rules
        have HO := Lib.hid O; clear O
        clear hbn
        go_wp2_with fail
        refine (HR1.out _).mono ?_
        rintro en wn ⟨rfl, hbn⟩
        have O := HO.out.keep hbn
        clear HO zz
        have zz := O.rules
        have HO := Lib.hid O; clear O
        clear hbn
        go_wp2_with fail
        refine (IS1.out _).mono ?_
        rintro en wn ⟨rfl, hbn⟩
        have O := HO.out.keep hbn
        clear HO zz
        have zz := O.rules
        have HO := Lib.hid O; clear O
        clear hbn
        go_wp2_with fail
        refine (HF2.out _).mono ?_
        rintro en wn ⟨rfl, hbn⟩
        have O := HO.out.keep hbn
        clear HO zz
        have zz := O.rules
        have HO := Lib.hid O; clear O
        clear hbn
        go_wp2_with fail
        refine (HBZ.out _).mono ?_
        rintro en wn ⟨rfl, hbn⟩
        have O := HO.out.keep hbn
        clear HO zz
        have zz := O.rules
        have HO := Lib.hid O; clear O
        clear hbn
        go_wp2_with fail
        refine (HR2.out _).mono ?_
        rintro en wn ⟨rfl, hbn⟩
        have O := HO.out.keep hbn
        clear HO zz
        have zz := O.rules
        have HO := Lib.hid O; clear O
        clear hbn
        go_wp2_with fail
        refine (IS2.out _).mono ?_
        rintro en wn ⟨rfl, hbn⟩
        have O := HO.out.keep hbn
        clear HO zz
        have zz := O.rules
        have HO := Lib.hid O; clear O
        clear hbn
        go_wp2_with fail
        refine (HBO.out _).mono ?_
        rintro en wn ⟨rfl, hbn⟩
        have O := HO.out.keep hbn
        clear HO zz
        have zz := O.rules
        have HO := Lib.hid O; clear O
        clear hbn
        go_wp2_with fail
        go_ret
        exact ⟨by first | rfl | simp, HO.out.below⟩
      · have hp2 : ¬ p < 2 := by omega
        have HH := Lib.hid hh; have HB := Lib.hid hb'; have HI1 := Lib.hid hi1; have HI2 := Lib.hid hi2
        clear hh hb' hi1 hi2
        go_enter Try.func14, Try.ntmps14
        go_wp2_with fail
        have O := Reg.Own.nil w
        have zz := O.rules
        have HO := Lib.hid O; clear O
        refine (awake_any _).mono ?_
        rintro en wn ⟨rfl, hbn⟩
        have O := HO.out.keep hbn
        clear HO zz
        have zz := O.rules
        have HO := Lib.hid O; clear O
        clear hbn
        go_wp2_with fail
        refine (H16.out _).mono ?_
        rintro en wn ⟨rfl, hbn⟩
        have O := HO.out.keep hbn
        clear HO zz
        have zz := O.rules
        have HO := Lib.hid O; clear O
        clear hbn
        go_wp2_with fail
        refine (HI1.out _).mono ?_
        rintro en wn ⟨rfl, hbn⟩
        have O := HO.out.keep hbn
        clear HO zz
        have zz := O.rules
        have HO := Lib.hid O; clear O
        clear hbn
        go_wp2_with fail
        refine (HBZ.out _).mono ?_
        rintro en wn ⟨rfl, hbn⟩
        have O := HO.out.keep hbn
        clear HO zz
        have zz := O.rules
        have HO := Lib.hid O; clear O
        clear hbn
        go_wp2_with fail
        refine (HI2.out _).mono ?_
        rintro en wn ⟨rfl, hbn⟩
        have O := HO.out.keep hbn
        clear HO zz
        have zz := O.rules
        have HO := Lib.hid O; clear O
        clear hbn
        go_wp2_with fail
        refine (HH.out _).mono ?_
        rintro en wn ⟨rfl, hbn⟩
        have O := HO.out.keep hbn
        clear HO zz
        have zz := O.rules
        have HO := Lib.hid O; clear O
        clear hbn
        go_wp2_with fail
        refine (HB.out _).mono ?_
        rintro en wn ⟨rfl, hbn⟩
        have O := HO.out.keep hbn
        clear HO zz
        have zz := O.rules
        have HO := Lib.hid O; clear O
        clear hbn
        go_wp2_with fail
        refine (HF1.out _).mono ?_
        rintro en wn ⟨rfl, hbn⟩
        have O := HO.out.keep hbn
        clear HO zz
        have zz := O.rules
        have HO := Lib.hid O; clear O
        clear hbn
        go_wp2_with fail
        refine (H16.out _).mono ?_
        rintro en wn ⟨rfl, hbn⟩
        have O := HO.out.keep hbn
        clear HO zz
        have zz := O.rules
        have HO := Lib.hid O; clear O
        clear hbn
        go_wp2_with fail
        refine (HR1.out _).mono ?_
        rintro en wn ⟨rfl, hbn⟩
        have O := HO.out.keep hbn
        clear HO zz
        have zz := O.rules
        have HO := Lib.hid O; clear O
        clear hbn
        go_wp2_with fail
        refine (IS1.out _).mono ?_
        rintro en wn ⟨rfl, hbn⟩
        have O := HO.out.keep hbn
        clear HO zz
        have zz := O.rules
        have HO := Lib.hid O; clear O
        clear hbn
        go_wp2_with fail
        refine (HF2.out _).mono ?_
        rintro en wn ⟨rfl, hbn⟩
        have O := HO.out.keep hbn
        clear HO zz
        have zz := O.rules
        have HO := Lib.hid O; clear O
        clear hbn
        go_wp2_with fail
        refine (HBZ.out _).mono ?_
        rintro en wn ⟨rfl, hbn⟩
        have O := HO.out.keep hbn
        clear HO zz
        have zz := O.rules
        have HO := Lib.hid O; clear O
        clear hbn
        go_wp2_with fail
        refine (HR2.out _).mono ?_
        rintro en wn ⟨rfl, hbn⟩
        have O := HO.out.keep hbn
        clear HO zz
        have zz := O.rules
        have HO := Lib.hid O; clear O
        clear hbn
        go_wp2_with fail
        refine (IS2.out _).mono ?_
        rintro en wn ⟨rfl, hbn⟩
        have O := HO.out.keep hbn
        clear HO zz
        have zz := O.rules
        have HO := Lib.hid O; clear O
        clear hbn
        go_wp2_with fail
        refine (HBO.out _).mono ?_
        rintro en wn ⟨rfl, hbn⟩
        have O := HO.out.keep hbn
        clear HO zz
        have zz := O.rules
        have HO := Lib.hid O; clear O
        clear hbn
        go_wp2_with fail
        go_ret
        exact ⟨by first | rfl | simp, HO.out.below⟩
    · have hbi2 := fun w => hbi f w g1 g2
      have hrb2 := fun w => hrb f w g1 g2
      simp only [hn, Bool.false_eq_true, if_false] at hbi2 hrb2
      have his := fun w => hisr (bitsN b f) f w
      simp only [isb f hn] at his
      have HBI := Lib.hid hbi2; have HRB := Lib.hid hrb2; have HIS := Lib.hid his
      clear hbo hbi hrb isb hisb hisr hbi2 hrb2 his hn
      generalize bitsN b f = xx at *
      generalize rbitsN b f = yy at *
      have g3 : ¬ ((f : Int) + 1 < 2) := by omega
      have g4 : (f : Int) + 1 ≤ 53 := by omega
      have HH := Lib.hid hh; have HB := Lib.hid hb'; have HI1 := Lib.hid hi1; have HI2 := Lib.hid hi2
      clear hh hb' hi1 hi2
      go_enter Try.func14, Try.ntmps14
      go_wp2_with fail
      have O := Reg.Own.nil w
      have zz := O.rules
      have HO := Lib.hid O; clear O
      refine (awake_any _).mono ?_
      rintro en wn ⟨rfl, hbn⟩
      have O := HO.out.keep hbn
      clear HO zz
      have zz := O.rules
      have HO := Lib.hid O; clear O
      clear hbn
      go_wp2_with fail
      refine (H16.out _).mono ?_
      rintro en wn ⟨rfl, hbn⟩
      have O := HO.out.keep hbn
      clear HO zz
      have zz := O.rules
      have HO := Lib.hid O; clear O
      clear hbn
      go_wp2_with fail
      refine (HI1.out _).mono ?_
      rintro en wn ⟨rfl, hbn⟩
      have O := HO.out.keep hbn
      clear HO zz
      have zz := O.rules
      have HO := Lib.hid O; clear O
      clear hbn
      go_wp2_with fail
      refine (HBZ.out _).mono ?_
      rintro en wn ⟨rfl, hbn⟩
      have O := HO.out.keep hbn
      clear HO zz
      have zz := O.rules
      have HO := Lib.hid O; clear O
      clear hbn
      go_wp2_with fail
      refine (HI2.out _).mono ?_
      rintro en wn ⟨rfl, hbn⟩
      have O := HO.out.keep hbn
      clear HO zz
      have zz := O.rules
      have HO := Lib.hid O; clear O
      clear hbn
      go_wp2_with fail
      refine (HH.out _).mono ?_
      rintro en wn ⟨rfl, hbn⟩
      have O := HO.out.keep hbn
      clear HO zz
      have zz := O.rules
      have HO := Lib.hid O; clear O
      clear hbn
      go_wp2_with fail
      refine (HB.out _).mono ?_
      rintro en wn ⟨rfl, hbn⟩
      have O := HO.out.keep hbn
      clear HO zz
      have zz := O.rules
      have HO := Lib.hid O; clear O
      clear hbn
      go_wp2_with fail
      refine (HF1.out _).mono ?_
      rintro en wn ⟨rfl, hbn⟩
      have O := HO.out.keep hbn
      clear HO zz
      have zz := O.rules
      have HO := Lib.hid O; clear O
      clear hbn
      go_wp2_with fail
      refine (H16.out _).mono ?_
      rintro en wn ⟨rfl, hbn⟩
      have O := HO.out.keep hbn
      clear HO zz
      have zz := O.rules
      have HO := Lib.hid O; clear O
      clear hbn
      go_wp2_with fail
      refine (HR1.out _).mono ?_
      rintro en wn ⟨rfl, hbn⟩
      have O := HO.out.keep hbn
      clear HO zz
      have zz := O.rules
      have HO := Lib.hid O; clear O
      clear hbn
      go_wp2_with fail
      refine (IS1.out _).mono ?_
      rintro en wn ⟨rfl, hbn⟩
      have O := HO.out.keep hbn
      clear HO zz
      have zz := O.rules
      have HO := Lib.hid O; clear O
      clear hbn
      go_wp2_with fail
      refine (HF2.out _).mono ?_
      rintro en wn ⟨rfl, hbn⟩
      have O := HO.out.keep hbn
      clear HO zz
      have zz := O.rules
      have HO := Lib.hid O; clear O
      clear hbn
      go_wp2_with fail
      refine (HBZ.out _).mono ?_
      rintro en wn ⟨rfl, hbn⟩
      have O := HO.out.keep hbn
      clear HO zz
      have zz := O.rules
      have HO := Lib.hid O; clear O
      clear hbn
      go_wp2_with fail
      refine (HR2.out _).mono ?_
      rintro en wn ⟨rfl, hbn⟩
      have O := HO.out.keep hbn
      clear HO zz
      have zz := O.rules
      have HO := Lib.hid O; clear O
      clear hbn
      go_wp2_with fail
      refine (IS2.out _).mono ?_
      rintro en wn ⟨rfl, hbn⟩
      have O := HO.out.keep hbn
      clear HO zz
      have zz := O.rules
      have HO := Lib.hid O; clear O
      clear hbn
      go_wp2_with fail
      refine (HBI.out _).mono ?_
      rintro en wn ⟨rfl, hbn⟩
      have O := HO.out.keep hbn
      clear HO zz
      have zz := O.rules
      have HO := Lib.hid O; clear O
      clear hbn
      go_wp2_with fail
      refine (HRB.out _).mono ?_
      rintro en wn ⟨rfl, hbn⟩
      have O := HO.out.keep hbn
      clear HO zz
      have zz := O.rules
      have HO := Lib.hid O; clear O
      clear hbn
      go_wp2_with fail
      refine (HIS.out _).mono ?_
      rintro en wn ⟨rfl, hbn⟩
      have O := HO.out.keep hbn
      clear HO zz
      have zz := O.rules
      have HO := Lib.hid O; clear O
      clear hbn
      go_wp2_with fail
      go_ret
      exact ⟨by first | rfl | simp, HO.out.below⟩
  · rw [hn] at e1
    obtain rfl := t1 hn
    obtain rfl := t2 hn
    clear q1 q2 t1 t2 w1 w2
    have w1 : IntKind.u64.wrap (32256 : Int) = 32256 := by decide
    have w2 : IntKind.u64.wrap (32704 : Int) = 32704 := by decide
    rcases P with hp | ⟨f, rfl, g1, g2⟩
    · have HBO := Lib.hid fun w => hbo w hp
      clear hbo hbi hrb isb hisb hisr hn
      rcases hp with hp | hp
      ·
        have HH := Lib.hid hh; have HB := Lib.hid hb'; have HI1 := Lib.hid hi1; have HI2 := Lib.hid hi2
        clear hh hb' hi1 hi2
        go_enter Try.func14, Try.ntmps14
        go_wp2_with fail
        have O := Reg.Own.nil w
        have zz := O.rules
        have HO := Lib.hid O; clear O
        refine (awake_any _).mono ?_
        rintro en wn ⟨rfl, hbn⟩
        have O := HO.out.keep hbn
        clear HO zz
        have zz := O.rules
        have HO := Lib.hid O; clear O
        clear hbn
        go_wp2_with fail
        refine (H16.out _).mono ?_
        rintro en wn ⟨rfl, hbn⟩
        have O := HO.out.keep hbn
        clear HO zz
        have zz := O.rules
        have HO := Lib.hid O; clear O
        clear hbn
        go_wp2_with fail
        refine (HI1.out _).mono ?_
        rintro en wn ⟨rfl, hbn⟩
        have O := HO.out.keep hbn
        clear HO zz
        have zz := O.rules
        have HO := Lib.hid O; clear O
        clear hbn
        go_wp2_with fail
        refine (HBZ.out _).mono ?_
        rintro en wn ⟨rfl, hbn⟩
        have O := HO.out.keep hbn
        clear HO zz
        have zz := O.rules
        have HO := Lib.hid O; clear O
        clear hbn
        go_wp2_with fail
        refine (HI2.out _).mono ?_
        rintro en wn ⟨rfl, hbn⟩
        have O := HO.out.keep hbn
        clear HO zz
        have zz := O.rules
        have HO := Lib.hid O; clear O
        clear hbn
        go_wp2_with fail
        refine (HH.out _).mono ?_
        rintro en wn ⟨rfl, hbn⟩
        have O := HO.out.keep hbn
        clear HO zz
        have zz := O.rules
        have HO := Lib.hid O; clear O
        clear hbn
        go_wp2_with fail
        refine (HB.out _).mono ?_
        rintro en wn ⟨rfl, hbn⟩
        have O := HO.out.keep hbn
        clear HO zz
        have zz := O.rules
        have HO := Lib.hid O; clear O
        clear hbn
        go_wp2_with fail
        refine (HF1.out _).mono ?_
        rintro en wn ⟨rfl, hbn⟩
        have O := HO.out.keep hbn
        clear HO zz
        have zz := O.rules
        have HO := Lib.hid O; clear O
        clear hbn
        go_wp2_with fail
        refine (H16.out _).mono ?_
        rintro en wn ⟨rfl, hbn⟩
        have O := HO.out.keep hbn
        clear HO zz
        have zz := O.rules
        have HO := Lib.hid O; clear O
        clear hbn
        go_wp2_with fail
        refine (HR1.out _).mono ?_
        rintro en wn ⟨rfl, hbn⟩
        have O := HO.out.keep hbn
        clear HO zz
        have zz := O.rules
        have HO := Lib.hid O; clear O
        clear hbn
        go_wp2_with fail
        refine (IS1.out _).mono ?_
        rintro en wn ⟨rfl, hbn⟩
        have O := HO.out.keep hbn
        clear HO zz
        have zz := O.rules
        have HO := Lib.hid O; clear O
        clear hbn
        go_wp2_with fail
        refine (HF2.out _).mono ?_
        rintro en wn ⟨rfl, hbn⟩
        have O := HO.out.keep hbn
        clear HO zz
        have zz := O.rules
        have HO := Lib.hid O; clear O
        clear hbn
        go_wp2_with fail
        refine (HBZ.out _).mono ?_
        rintro en wn ⟨rfl, hbn⟩
        have O := HO.out.keep hbn
        clear HO zz
        have zz := O.rules
        have HO := Lib.hid O; clear O
        clear hbn
        go_wp2_with fail
        refine (HR2.out _).mono ?_
        rintro en wn ⟨rfl, hbn⟩
        have O := HO.out.keep hbn
        clear HO zz
        have zz := O.rules
        have HO := Lib.hid O; clear O
        clear hbn
        go_wp2_with fail
        refine (IS2.out _).mono ?_
        rintro en wn ⟨rfl, hbn⟩
        have O := HO.out.keep hbn
        clear HO zz
        have zz := O.rules
        have HO := Lib.hid O; clear O
        clear hbn
        go_wp2_with fail
        refine (HBO.out _).mono ?_
        rintro en wn ⟨rfl, hbn⟩
        have O := HO.out.keep hbn
        clear HO zz
        have zz := O.rules
        have HO := Lib.hid O; clear O
        clear hbn
        go_wp2_with fail
        go_ret
        exact ⟨by first | rfl | simp, HO.out.below⟩
      · have hp2 : ¬ p < 2 := by omega
        have HH := Lib.hid hh; have HB := Lib.hid hb'; have HI1 := Lib.hid hi1; have HI2 := Lib.hid hi2
        clear hh hb' hi1 hi2
        go_enter Try.func14, Try.ntmps14
        go_wp2_with fail
        have O := Reg.Own.nil w
        have zz := O.rules
        have HO := Lib.hid O; clear O
        refine (awake_any _).mono ?_
        rintro en wn ⟨rfl, hbn⟩
        have O := HO.out.keep hbn
        clear HO zz
        have zz := O.rules
        have HO := Lib.hid O; clear O
        clear hbn
        go_wp2_with fail
        refine (H16.out _).mono ?_
        rintro en wn ⟨rfl, hbn⟩
        have O := HO.out.keep hbn
        clear HO zz
        have zz := O.rules
        have HO := Lib.hid O; clear O
        clear hbn
        go_wp2_with fail
        refine (HI1.out _).mono ?_
        rintro en wn ⟨rfl, hbn⟩
        have O := HO.out.keep hbn
        clear HO zz
        have zz := O.rules
        have HO := Lib.hid O; clear O
        clear hbn
        go_wp2_with fail
        refine (HBZ.out _).mono ?_
        rintro en wn ⟨rfl, hbn⟩
        have O := HO.out.keep hbn
        clear HO zz
        have zz := O.rules
        have HO := Lib.hid O; clear O
        clear hbn
        go_wp2_with fail
        refine (HI2.out _).mono ?_
        rintro en wn ⟨rfl, hbn⟩
        have O := HO.out.keep hbn
        clear HO zz
        have zz := O.rules
        have HO := Lib.hid O; clear O
        clear hbn
        go_wp2_with fail
        refine (HH.out _).mono ?_
        rintro en wn ⟨rfl, hbn⟩
        have O := HO.out.keep hbn
        clear HO zz
        have zz := O.rules
        have HO := Lib.hid O; clear O
        clear hbn
        go_wp2_with fail
        refine (HB.out _).mono ?_
        rintro en wn ⟨rfl, hbn⟩
        have O := HO.out.keep hbn
        clear HO zz
        have zz := O.rules
        have HO := Lib.hid O; clear O
        clear hbn
        go_wp2_with fail
        refine (HF1.out _).mono ?_
        rintro en wn ⟨rfl, hbn⟩
        have O := HO.out.keep hbn
        clear HO zz
        have zz := O.rules
        have HO := Lib.hid O; clear O
        clear hbn
        go_wp2_with fail
        refine (H16.out _).mono ?_
        rintro en wn ⟨rfl, hbn⟩
        have O := HO.out.keep hbn
        clear HO zz
        have zz := O.rules
        have HO := Lib.hid O; clear O
        clear hbn
        go_wp2_with fail
        refine (HR1.out _).mono ?_
        rintro en wn ⟨rfl, hbn⟩
        have O := HO.out.keep hbn
        clear HO zz
        have zz := O.rules
        have HO := Lib.hid O; clear O
        clear hbn
        go_wp2_with fail
        refine (IS1.out _).mono ?_
        rintro en wn ⟨rfl, hbn⟩
        have O := HO.out.keep hbn
        clear HO zz
        have zz := O.rules
        have HO := Lib.hid O; clear O
        clear hbn
        go_wp2_with fail
        refine (HF2.out _).mono ?_
        rintro en wn ⟨rfl, hbn⟩
        have O := HO.out.keep hbn
        clear HO zz
        have zz := O.rules
        have HO := Lib.hid O; clear O
        clear hbn
        go_wp2_with fail
        refine (HBZ.out _).mono ?_
        rintro en wn ⟨rfl, hbn⟩
        have O := HO.out.keep hbn
        clear HO zz
        have zz := O.rules
        have HO := Lib.hid O; clear O
        clear hbn
        go_wp2_with fail
        refine (HR2.out _).mono ?_
        rintro en wn ⟨rfl, hbn⟩
        have O := HO.out.keep hbn
        clear HO zz
        have zz := O.rules
        have HO := Lib.hid O; clear O
        clear hbn
        go_wp2_with fail
        refine (IS2.out _).mono ?_
        rintro en wn ⟨rfl, hbn⟩
        have O := HO.out.keep hbn
        clear HO zz
        have zz := O.rules
        have HO := Lib.hid O; clear O
        clear hbn
        go_wp2_with fail
        refine (HBO.out _).mono ?_
        rintro en wn ⟨rfl, hbn⟩
        have O := HO.out.keep hbn
        clear HO zz
        have zz := O.rules
        have HO := Lib.hid O; clear O
        clear hbn
        go_wp2_with fail
        go_ret
        exact ⟨by first | rfl | simp, HO.out.below⟩
    · have hbi2 := fun w => hbi f w g1 g2
      have hrb2 := fun w => hrb f w g1 g2
      simp only [hn, if_true] at hbi2 hrb2
      have his := fun w => hisb b w
      simp only [isN_same b] at his
      have HBI := Lib.hid hbi2; have HRB := Lib.hid hrb2; have HIS := Lib.hid his
      clear hbo hbi hrb isb hisb hisr hbi2 hrb2 his hn
      have g3 : ¬ ((f : Int) + 1 < 2) := by omega
      have g4 : (f : Int) + 1 ≤ 53 := by omega
      have HH := Lib.hid hh; have HB := Lib.hid hb'; have HI1 := Lib.hid hi1; have HI2 := Lib.hid hi2
      clear hh hb' hi1 hi2
      go_enter Try.func14, Try.ntmps14
      go_wp2_with fail
      have O := Reg.Own.nil w
      have zz := O.rules
      have HO := Lib.hid O; clear O
      refine (awake_any _).mono ?_
      rintro en wn ⟨rfl, hbn⟩
      have O := HO.out.keep hbn
      clear HO zz
      have zz := O.rules
      have HO := Lib.hid O; clear O
      clear hbn
      go_wp2_with fail
      refine (H16.out _).mono ?_
      rintro en wn ⟨rfl, hbn⟩
      have O := HO.out.keep hbn
      clear HO zz
      have zz := O.rules
      have HO := Lib.hid O; clear O
      clear hbn
      go_wp2_with fail
      refine (HI1.out _).mono ?_
      rintro en wn ⟨rfl, hbn⟩
      have O := HO.out.keep hbn
      clear HO zz
      have zz := O.rules
      have HO := Lib.hid O; clear O
      clear hbn
      go_wp2_with fail
      refine (HBZ.out _).mono ?_
      rintro en wn ⟨rfl, hbn⟩
      have O := HO.out.keep hbn
      clear HO zz
      have zz := O.rules
      have HO := Lib.hid O; clear O
      clear hbn
      go_wp2_with fail
      refine (HI2.out _).mono ?_
      rintro en wn ⟨rfl, hbn⟩
      have O := HO.out.keep hbn
      clear HO zz
      have zz := O.rules
      have HO := Lib.hid O; clear O
      clear hbn
      go_wp2_with fail
      refine (HH.out _).mono ?_
      rintro en wn ⟨rfl, hbn⟩
      have O := HO.out.keep hbn
      clear HO zz
      have zz := O.rules
      have HO := Lib.hid O; clear O
      clear hbn
      go_wp2_with fail
      refine (HB.out _).mono ?_
      rintro en wn ⟨rfl, hbn⟩
      have O := HO.out.keep hbn
      clear HO zz
      have zz := O.rules
      have HO := Lib.hid O; clear O
      clear hbn
      go_wp2_with fail
      refine (HF1.out _).mono ?_
      rintro en wn ⟨rfl, hbn⟩
      have O := HO.out.keep hbn
      clear HO zz
      have zz := O.rules
      have HO := Lib.hid O; clear O
      clear hbn
      go_wp2_with fail
      refine (H16.out _).mono ?_
      rintro en wn ⟨rfl, hbn⟩
      have O := HO.out.keep hbn
      clear HO zz
      have zz := O.rules
      have HO := Lib.hid O; clear O
      clear hbn
      go_wp2_with fail
      refine (HR1.out _).mono ?_
      rintro en wn ⟨rfl, hbn⟩
      have O := HO.out.keep hbn
      clear HO zz
      have zz := O.rules
      have HO := Lib.hid O; clear O
      clear hbn
      go_wp2_with fail
      refine (IS1.out _).mono ?_
      rintro en wn ⟨rfl, hbn⟩
      have O := HO.out.keep hbn
      clear HO zz
      have zz := O.rules
      have HO := Lib.hid O; clear O
      clear hbn
      go_wp2_with fail
      refine (HF2.out _).mono ?_
      rintro en wn ⟨rfl, hbn⟩
      have O := HO.out.keep hbn
      clear HO zz
      have zz := O.rules
      have HO := Lib.hid O; clear O
      clear hbn
      go_wp2_with fail
      refine (HBZ.out _).mono ?_
      rintro en wn ⟨rfl, hbn⟩
      have O := HO.out.keep hbn
      clear HO zz
      have zz := O.rules
      have HO := Lib.hid O; clear O
      clear hbn
      go_wp2_with fail
      refine (HR2.out _).mono ?_
      rintro en wn ⟨rfl, hbn⟩
      have O := HO.out.keep hbn
      clear HO zz
      have zz := O.rules
      have HO := Lib.hid O; clear O
      clear hbn
      go_wp2_with fail
      refine (IS2.out _).mono ?_
      rintro en wn ⟨rfl, hbn⟩
      have O := HO.out.keep hbn
      clear HO zz
      have zz := O.rules
      have HO := Lib.hid O; clear O
      clear hbn
      go_wp2_with fail
      refine (HBI.out _).mono ?_
      rintro en wn ⟨rfl, hbn⟩
      have O := HO.out.keep hbn
      clear HO zz
      have zz := O.rules
      have HO := Lib.hid O; clear O
      clear hbn
      go_wp2_with fail
      refine (HRB.out _).mono ?_
      rintro en wn ⟨rfl, hbn⟩
      have O := HO.out.keep hbn
      clear HO zz
      have zz := O.rules
      have HO := Lib.hid O; clear O
      clear hbn
      go_wp2_with fail
      refine (HIS.out _).mono ?_
      rintro en wn ⟨rfl, hbn⟩
      have O := HO.out.keep hbn
      clear HO zz
      have zz := O.rules
      have HO := Lib.hid O; clear O
      clear hbn
      go_wp2_with fail
      go_ret
      exact ⟨by first | rfl | simp, HO.out.below⟩

theorem realFormats_own : ownKnob Try.prog.godebug = none := by kernel_rfl
theorem realFormats_laid : laidOutB Try.prog = true := by kernel_rfl
theorem realFormats_types : ∀ t ∈ ([22, 86, 3] : List TypeId), Try.prog.readableRec t = true ∧ t < Try.prog.types.size := by
  simp only [List.mem_cons, List.not_mem_nil, or_false, forall_eq_or_imp, forall_eq]
  exact ⟨⟨by kernel_rfl, of_decide_eq_true (by kernel_rfl)⟩, ⟨by kernel_rfl, of_decide_eq_true (by kernel_rfl)⟩, ⟨by kernel_rfl, of_decide_eq_true (by kernel_rfl)⟩⟩
set_option maxRecDepth 100000 in
theorem realFormats_lifted (os : Os) (started : os.Started) (H : Type) (enc : TypeId × Value → H) :
    ReturnsInHanded {} Try.checked os 14 .any (Rows.realFormatsSpec.pre6 enc Try.prog Try.f14 Rows.realFormatsRow.domain false) (Rows.realFormatsSpec.post enc Try.prog Try.f14 false true false false) := by
  refine returnsInHanded_of_change (C := Try.checked) realFormats_own started (by kernel_rfl) Try.func14
    (ChangeSpec.witness6 (enc := enc) (C := Try.checked) false ⟨#[], #[.int .u64 0, .int .u16 0, .int .i64 0], []⟩ 8 (by kernel_rfl) (by kernel_rfl) (by kernel_rfl) (by kernel_rfl)) ?_
  intro W base args ds gs before hval0 hW hcnd hsz
  have hval : ∀ (j : Nat) t v, Try.f14.params[j]? = some t → args[j]? = some v → Value.okWide Try.prog W .any base t v := hval0
  have hW' := hW
  obtain ⟨p, q, hA0, hV, rfl, hfz, hnd⟩ := hW
  have hA : DataW.TrodAll enc Try.prog W 0 (fun _ => true) true Try.f14.params.toList args.toList ds p := hA0
  obtain ⟨rfl, rfl⟩ := trodVars_none hV
  have hpost : ∀ W', Below W.heap.size W W' → Rows.realFormatsSpec.post enc Try.prog Try.f14 false true false false W args (.bool true) W' := fun W' hb => by
    have hlen : ds.length = 3 := by have hh := hA; rw [Try.params14] at hh; obtain ⟨_, _, d0, ds0, _, _, _, rfl, _, _, hh⟩ := trodAll_cons hh; obtain ⟨_, _, d1, ds1, _, _, _, rfl, _, _, hh⟩ := trodAll_cons hh; obtain ⟨_, _, d2, ds2, _, _, _, rfl, _, _, hh⟩ := trodAll_cons hh; obtain ⟨_, rfl, _⟩ := trodAll_nil hh; simp
    obtain ⟨e0, e1, e2, rfl⟩ : ∃ e0 e1 e2, ds = [e0, e1, e2] := by match ds, hlen with | [e0, e1, e2], _ => exact ⟨e0, e1, e2, rfl⟩
    exact law_post realFormats_laid rfl hW' (by rw [Try.params14]; exact realFormats_types) (tb := 4) (by kernel_rfl) Try.underlying4 rfl rfl rfl hb
  rw [Try.params14] at hA hval
  obtain ⟨v0, vs0, d0, ds0, p0, q0, hargs, rfl, rfl, h0, r0⟩ := trodAll_cons hA
  obtain ⟨v1, vs1, d1, ds1, p1, q1, rfl, rfl, rfl, h1, r1⟩ := trodAll_cons r0
  obtain ⟨v2, vs2, d2, ds2, p2, q2, rfl, rfl, rfl, h2, r2⟩ := trodAll_cons r1
  obtain ⟨rfl, rfl, rfl⟩ := trodAll_nil r2
  obtain rfl : args = #[v0, v1, v2] := by cases args; simp_all
  obtain ⟨b, rfl, rfl, rfl, w0⟩ := open_int Try.underlying22 (hval 0 22 v0 rfl rfl) h0
  obtain ⟨c, rfl, rfl, rfl, w1⟩ := open_int Try.underlying86 (hval 1 86 v1 rfl rfl) h1
  obtain ⟨p, rfl, rfl, rfl, w2⟩ := open_int Try.underlying3 (hval 2 3 v2 rfl rfl) h2
  obtain ⟨b, rfl, hb⟩ := wf_u64 w0
  obtain ⟨c, rfl, hc⟩ := wf_u16 w1
  refine (realFormats_walk b c p W hb hc).mono fun e W' ⟨he, hg⟩ => ?_
  subst he
  exact ⟨_, rfl, hpost _ hg⟩

theorem realFormats_holds : Rows.RealFormatsSaid :=
  OpenClaim.holds_of_wide 14 Try.f14 rfl rfl rfl rfl rfl rfl rfl ⟨rfl, rfl, rfl, rfl, rfl⟩ rfl rfl rfl rfl rfl (by kernel_rfl) Try.func14 (by kernel_rfl)
    (of_decide_eq_true (by kernel_rfl)) (by unfold Func.isWrapper; first | (rw [if_pos (by decide +kernel)]; kernel_rfl) | (rw [if_neg (by decide +kernel)]; exact ⟨rfl, rfl⟩))
    (fun os started H enc _ => realFormats_lifted os started H enc)
#print axioms realFormats_holds

end Go.Proofs.Ytpemchghaddgdaa
