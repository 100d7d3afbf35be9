/- The document's Even: what it answers. Condition: the bits fit. -/
import Derived.Test.YtpemchghaddgdaaWk
namespace Go.Proofs.Ytpemchghaddgdaa
open Go.RowKit Go.Pst
set_option maxRecDepth 20000
set_option linter.unusedSimpArgs false
set_option linter.unusedVariables false

theorem reven_any (b : Nat) (w : World) (hb : b < 2 ^ 64) : Calls Try.prog 44 #[.int .u64 b] w fun en w' => en = .returned (.int .u64 (evB b)) ∧ Below w.heap.size w w' := by
  have hp := fun w => refparts64 b w hb
  obtain ⟨k1, k2, -⟩ := kind64 b hb
  cases hn : nan64 b
  · cases hi : infB b
    · obtain ⟨k, e, hk⟩ := parts_num b hb hn hi
      rw [e] at hp
      simp only [FP.val] at hp
      by_cases h0 : mantB b = 0
      · rw [evB_keep b hb (.inr (.inr (.inr h0)))]
        rw [if_pos h0] at hp
        exact reven_keep _ _ _ _ _ _ b w (.inr (.inr (by omega))) hp
      · by_cases h1 : 1074 ≤ placeB b
        · rw [evB_keep b hb (.inr (.inr (.inl h1)))]
          rw [if_neg h0] at hp
          exact reven_keep _ _ _ _ _ _ b w (.inr (.inr (by omega))) hp
        · rw [if_neg h0] at hp
          have hev : evB b = signedBits 52 11 (negB b) (rndN 52 11 (rne (mantB b) (1074 - placeB b)) 0) := by
            unfold evB
            rw [if_neg (by rw [hn, hi, decide_eq_false h1]; simp), wrd_signed _ _ (rnd_lt63 _ _)]
          rw [hev]
          exact reven_loop k _ _ _ _ b (mantB b) (1074 - placeB b) w (by rw [Bool.eq_iff_iff]; simp; omega) (by rw [Bool.eq_iff_iff]; simp; omega) (by omega) (by omega) (by omega) (mant_lt b) hp
    · rw [evB_keep b hb (.inr (.inl hi))]
      refine reven_keep _ _ _ _ _ _ b w (.inr (.inl ?_)) hp
      unfold infB at hi; rw [show (b % 9223372036854775808 == 9218868437227405312) = true by simpa using hi] at k2; simpa using k2
  · rw [evB_keep b hb (.inl hn)]
    rw [hn] at k1
    exact reven_keep _ _ _ _ _ _ b w (.inl (by simpa using k1)) hp

end Go.Proofs.Ytpemchghaddgdaa
