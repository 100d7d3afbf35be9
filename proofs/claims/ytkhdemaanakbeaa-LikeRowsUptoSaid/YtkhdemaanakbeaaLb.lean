/- Rows of costs: which is ahead. No condition. -/
import Derived.Test.YtkhdemaanakbeaaLa
namespace Go.Proofs.Ytkhdemaanakbeaa
open Go.RowKit Go.Pst
set_option maxRecDepth 20000
set_option linter.unusedSimpArgs false
set_option linter.unusedVariables false

theorem or_any (g : Nat) (x y : Int) (w : World) (h0 : w.cell? ⟨g, 0, none⟩ = some (.int .i64 x)) (h1 : w.cell? ⟨g, 1, none⟩ = some (.int .i64 y)) :
    Calls Try.prog 63 #[.slice (some ⟨g, 0, none⟩) 2 2] w fun en w' => en = .returned (.int .i64 (if x = 0 then y else x)) ∧ w = w' := by
  obtain ⟨r, hr⟩ : ∃ r, r = (if x = 0 then y else x) := ⟨_, rfl⟩
  rw [← hr]
  have HR := Lib.hid hr; clear hr
  by_cases hx : x = 0
  · subst hx
    by_cases hy : y = 0
    · subst hy
      go_enter Try.func63, Try.ntmps63
      go_wp2
      refine wp_loop_rounds 3 ?_
      rw [rounds_succ]; go_wp2
      rw [rounds_succ]; go_wp2
      rw [rounds_succ]; go_wp2
      go_ret
      exact ⟨by rw [HR.out]; simp, rfl⟩
    · go_enter Try.func63, Try.ntmps63
      go_wp2
      refine wp_loop_rounds 2 ?_
      rw [rounds_succ]; go_wp2
      rw [rounds_succ]; go_wp2
      go_ret
      exact ⟨by rw [HR.out]; simp, rfl⟩
  · go_enter Try.func63, Try.ntmps63
    go_wp2
    refine wp_loop_rounds 1 ?_
    rw [rounds_succ]; go_wp2
    go_ret
    exact ⟨by rw [HR.out]; simp [hx], rfl⟩

/-- How two rows stand: -1, 0, 1. -/
def ordC (a b a' b' : Int) : Int := if cmpI a a' = 0 then cmpI b b' else cmpI a a'

theorem orderC_any (a b a' b' : Int) (c c' : Nat) (w : World) :
    Calls Try.prog 49 #[.agg #[.int .i32 a, .int .i32 b, .float .f32 c], .agg #[.int .i32 a', .int .i32 b', .float .f32 c']] w fun en w' => en = .returned (.int .i64 (ordC a b a' b')) ∧ Below w.heap.size w w' := by
  have h1 : ∀ w, Calls Try.prog 64 #[.int .i32 a, .int .i32 a'] w fun en w' => en = .returned (.int .i64 (cmpI a a')) ∧ w' = w := fun w => (cmp32_any a a' w).mono fun en w' h => ⟨h.1, h.2.symm⟩
  have h2 : ∀ w, Calls Try.prog 64 #[.int .i32 b, .int .i32 b'] w fun en w' => en = .returned (.int .i64 (cmpI b b')) ∧ w' = w := fun w => (cmp32_any b b' w).mono fun en w' h => ⟨h.1, h.2.symm⟩
  have H1 := Lib.hid h1; have H2 := Lib.hid h2; clear h1 h2
  unfold ordC
  generalize cmpI a a' = x at *
  generalize cmpI b b' = y at *
  obtain ⟨r, hr⟩ : ∃ r, r = (if x = 0 then y else x) := ⟨_, rfl⟩
  rw [← hr]
  have HO : ∀ g w, w.cell? ⟨g, 0, none⟩ = some (.int .i64 x) → w.cell? ⟨g, 1, none⟩ = some (.int .i64 y) → Calls Try.prog 63 #[.slice (some ⟨g, 0, none⟩) 2 2] w fun en w' => en = .returned (.int .i64 r) ∧ w = w' := fun g w h0 h1 => by rw [hr]; exact or_any g x y w h0 h1
  have HOr := Lib.hid HO; clear HO hr
  go_enter Try.func49, Try.ntmps49
  go_wp2_with fail
  refine Reg.wp_region_tail 10 (by kernel_rfl) (by kernel_rfl) ?_
  simp only [List.take_succ_cons, List.take_zero, List.drop_succ_cons, List.drop_zero]
  repeat still_step
  still_call (H1.out _)
  repeat still_step
  still_call (H2.out _)
  repeat still_step
  try refine wpStill_nil ?_
  go_wp2_with fail
  refine (HOr.out _ _ (by go_simp) (by go_simp)).mono ?_
  rintro en w' ⟨rfl, rfl⟩
  go_wp2_with fail
  go_ret
  exact ⟨rfl, (((Below.refl w.heap.size w).alloc (Nat.le_refl _) _).alloc (by simp) _).alloc (by simp; omega) _ |>.drew⟩

end Go.Proofs.Ytkhdemaanakbeaa
