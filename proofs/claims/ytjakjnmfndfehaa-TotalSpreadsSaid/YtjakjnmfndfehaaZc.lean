/- The sum by sizes: the program. Condition: lists of at most 65536. -/
import Derived.Test.YtjakjnmfndfehaaZb
import Derived.Test.YtjakjnmfndfehaaSn
namespace Go.Pst
/-- A list, nought behind its end. -/
def fcut (f : Nat → Nat) (n i : Nat) : Nat := if i < n then f i else 0
theorem fcut_lt {f : Nat → Nat} {n : Nat} (hf : ∀ j, j < n → f j < 2 ^ 64) (i : Nat) : fcut f n i < 2 ^ 64 := by
  unfold fcut; split
  · exact hf i (by assumption)
  · decide
theorem fcut_in {f : Nat → Nat} {n i : Nat} (h : i < n) : fcut f n i = f i := by unfold fcut; rw [if_pos h]
end Go.Pst
namespace Go.Proofs.Ytjakjnmfndfehaa
open Go.RowKit Go.Pst
set_option maxRecDepth 20000
set_option linter.unusedSimpArgs false
set_option linter.unusedVariables false
theorem fr_of_own {w : World} {base n : Nat} {v : Value} {y : Nat → Nat} (h : w.ownsRow base 24 1 v n (nums y n)) (hn : 0 < n) :
    ∃ g cap E, v = .slice (some ⟨g, 0, none⟩) n cap ∧ base ≤ g ∧ n ≤ cap ∧ FR w g cap n y (fun p => p) E := by
  rcases h.2 with ⟨h1, h2⟩ | ⟨g, cap, cur, h1, h2, h3, h4, h5, h6, h7⟩
  · omega
  · refine ⟨g, cap, fun q => cur.getD q undef, h1, h2, h4, cur, h3, by omega, fun q hq => ?_⟩
    show cur[q]? = some (if q < n then Value.float .f64 (y q) else cur.getD q undef)
    by_cases e : q < n
    · rw [if_pos e]
      have hu := nums_get y e
      rw [← h7, Nat.mul_one, List.getElem?_take_of_lt e] at hu
      simpa using hu
    · rw [if_neg e]
      simp [Array.getElem?_eq_getElem (show q < cur.size by omega), Array.getD_eq_getD_getElem?]
theorem FR.flat {w : World} {g M n c : Nat} {y π : Nat → Nat} {E : Nat → Value} (h : FR w g M n y π E) (hM : n ≤ M) : FlAt w w.heap.size (some ⟨g, 0, none⟩) n (fun i => y (π i)) := fun _ =>
  ⟨g, 0, rfl, h.lt, fun i hi => by rw [Nat.zero_add]; exact h.cell hM hi⟩
theorem eq_nil (a : Option Addr) (l c : Nat) (w : World) : (binOp .eql 22 (.slice a l c) (.slice none 0 0)).run Try.prog w = .ok (.bool a.isNone) w := by
  have h : ∀ d, (Op.equalIn (d + 1) 22 (.slice a l c) (.slice none 0 0)).run Try.prog w = .ok a.isNone w := fun d => by
    cases a <;> simp [Op.equalIn, run_underlying Try.underlying22]
  have h2 : (Op.equal 22 (.slice a l c) (.slice none 0 0)).run Try.prog w = .ok a.isNone w := h 9999
  simp only [binOp]
  simp [h2]
section
attribute [local go_sem] eq_nil
theorem clone_any (n c : Nat) (A : Option Addr) (f : Nat → Nat) (w : World) (hA : FlAt w w.heap.size A n f) (hn : n ≤ 65536) (hnc : A = none → n = 0 ∧ c = 0) :
    Calls Try.prog 70 #[.slice A n c] w (fun en w' => ∃ v, en = .returned v ∧ w'.ownsRow w.heap.size 24 1 v n (nums f n) ∧ Below w.heap.size w w') := by
  cases A with
  | none =>
    obtain ⟨rfl, rfl⟩ := hnc rfl
    clear hA hnc
    go_enter Try.func70, Try.ntmps70
    go_wp2_with fail
    go_ret
    exact ⟨_, rfl, World.ownsRow_nil _ _ _ _, Below.refl _ _⟩
  | some p =>
    have HA := Lib.hid hA
    clear hA hnc
    go_enter Try.func70, Try.ntmps70
    go_wp2_with (at_builtin
                 refine wpList_floats w _ rfl _ _ rfl rfl ((Below.refl _ _).alloc (Nat.le_refl _) _) _ 0 f rfl (World.ownsRow_made (e := 24) (size := 1) w #[] 0 (Nat.le_refl _) (by simp [maxLen]) rfl) (some p) n c w.heap.size f rfl (HA.out.below ((Below.refl w.heap.size w).alloc (Nat.le_refl _) (.cells #[] 24)) (Nat.le_refl _)) (by omega) ?_
                 intro v1 w1 ho1 hb1
                 have O1 := Lib.hid ho1
                 have B1 := Lib.hid hb1
                 clear ho1 hb1)
    go_wp2_with fail
    go_ret
    refine ⟨_, rfl, ?_, B1.out⟩
    have := O1.out
    rw [Nat.zero_add] at this
    rwa [nums_congr (f := joinR f 0 f) (g := f) n (fun i hi => by unfold joinR; rw [if_neg (by omega), Nat.sub_zero])] at this
end
theorem insertion_zero (c : Nat) (A : Option Addr) (F : Value) (w : World) :
    Calls Try.prog 117 #[.slice A 0 c, .int .i64 0, .int .i64 0, F] w fun en w' => (∃ v, en = .returned v) ∧ w = w' := by
  go_enter Try.func117, Try.ntmps117
  go_wp2_with fail
  go_loopw [8] (fun s wr => s = .int .i64 1 ∧ wr = w) (fun _ _ => 0)
  case atStart => exact ⟨rfl, rfl⟩
  case round =>
    obtain ⟨rfl, hwc⟩ := hrel
    obtain rfl := hwc
    go_wp2_with fail
    go_end0
    exact ⟨⟨_, rfl⟩, rfl⟩
theorem stable_zero (c : Nat) (A : Option Addr) (F : Value) (w : World) :
    Calls Try.prog 103 #[.slice A 0 c, .int .i64 0, F] w fun en w' => (∃ v, en = .returned v) ∧ w = w' := by
  go_enter Try.func103, Try.ntmps103
  go_wp2_with fail
  go_loopw [7, 8] (fun s r wr => s = .int .i64 0 ∧ r = .int .i64 20 ∧ wr = w) (fun _ _ _ => 0)
  case atStart => exact ⟨rfl, rfl, rfl⟩
  case round =>
    obtain ⟨rfl, rfl, hwc⟩ := hrel
    obtain rfl := hwc
    go_wp2_with fail
    refine (insertion_zero c A F _).mono ?_
    rintro en w1 ⟨⟨v, rfl⟩, rfl⟩
    go_wp2_with fail
    go_loopw [6] (fun r wq => r = .int .i64 20 ∧ wq = wr) (fun _ _ => 0)
    case atStart => exact ⟨rfl, rfl⟩
    case round =>
      obtain ⟨rfl, hwc⟩ := hrel
      obtain rfl := hwc
      go_wp2_with fail
      go_end0
      exact ⟨⟨_, rfl⟩, rfl⟩
theorem sortstable_zero (c : Nat) (A : Option Addr) (F : Value) (w : World) :
    Calls Try.prog 71 #[.slice A 0 c, F] w fun en w' => (∃ v, en = .returned v) ∧ w = w' := by
  go_enter Try.func71, Try.ntmps71
  go_wp2_with fail
  refine (stable_zero c A F _).mono ?_
  rintro en w1 ⟨⟨v, rfl⟩, rfl⟩
  go_wp2_with fail
  go_end0
  exact ⟨⟨_, rfl⟩, rfl⟩
/-- In whatever order they stand, the sum of the numbers put in order by their sizes. -/
def BySizePost (f : Nat → Nat) (n : Nat) (P : (Nat → Nat) → Prop) : Prop := ∃ s, Pm 0 n s ∧ Srt (fun i => ky (fcut f n i)) s 0 n ∧ P (fun i => fcut f n (s i))
set_option maxHeartbeats 1000000 in
theorem bysizeP_any (n c : Nat) (A : Option Addr) (f : Nat → Nat) (w : World) (hA : FlAt w w.heap.size A n f) (hn : n ≤ 65536) (hnc : A = none → n = 0 ∧ c = 0) (hf : ∀ j, j < n → f j < 2 ^ 64) :
    Calls Try.prog 19 #[.slice A n c] w (fun en w' => BySizePost f n (fun g => FeLike (keS g n) 0 w en w')) := by
  have HLG := Lib.hid fun w => long_f n c A w (by omega)
  rw [decide_eq_false (by omega : ¬ 65536 < n)] at HLG
  have HC := Lib.hid (clone_any n c A f w hA hn hnc)
  have HF := Lib.hid (fcut_lt hf)
  clear hA hf hnc
  unfold BySizePost
  go_enter Try.func19, Try.ntmps19
  go_wp2_with fail
  refine (HLG.out _).mono ?_
  rintro en w' ⟨rfl, hww⟩
  obtain rfl := hww
  go_wp2_with fail
  refine HC.out.mono ?_
  rintro en w1 ⟨v, rfl, hown, hb1⟩
  have O1 := Lib.hid hown; have B1 := Lib.hid hb1
  have hz1 := hb1.size
  clear hown hb1
  by_cases h0 : n = 0
  · subst h0
    obtain ⟨VB, vc, rfl, fv⟩ := flat_of O1.out
    have FV := Lib.hid fv
    clear fv
    go_wp2_with fail
    refine (sortstable_zero vc VB _ _).mono ?_
    rintro en w2 ⟨⟨x, rfl⟩, rfl⟩
    go_wp2_with fail
    refine (sum_any 0 vc VB (fun i => fcut f 0 i) _ (fun h => by omega) (by omega)).mono ?_
    rintro en w3 ⟨u, rfl, hu, hb3⟩
    have HU := Lib.hid hu
    have B3 := Lib.hid (B1.out.trans (hb3.mono hz1))
    clear hu hb3
    go_wp2_with fail
    go_ret2
    exact ⟨fun p => p, Pm.same _ _, fun p q _ _ h => by omega, u, rfl, HU.out, B3.out⟩
  · obtain ⟨g, cap, E, rfl, hg, hcap, hfr⟩ := fr_of_own O1.out (by omega)
    have F1 : Hid (FR w1 g cap n (fcut f n) (fun p => p) E) := Lib.hid (World.rowIs.congr hfr fun q hq => by
      by_cases e : q < n
      · rw [if_pos e, if_pos e, fcut_in e]
      · rw [if_neg e, if_neg e])
    clear hfr
    go_wp2_with fail
    refine (sortstable_any w w.heap.size g n cap cap (fcut f n) E _ hg B1.out (Nat.le_refl _) F1.out hcap hn HF.out).mono ?_
    rintro en w2 ⟨⟨x, rfl⟩, hb2, s, hp, hr, hs⟩
    have B2 := Lib.hid hb2; have R2 := Lib.hid hr; have P2 := Lib.hid hp; have S2 := Lib.hid hs
    have hz2 := hb2.size
    clear hb2 hp hr hs
    go_wp2_with fail
    refine (sum_any n cap (some ⟨g, 0, none⟩) (fun i => fcut f n (s i)) _ (FR.flat (c := cap) R2.out hcap) hn).mono ?_
    rintro en w3 ⟨u, rfl, hu, hb3⟩
    have HU := Lib.hid hu
    have B3 := Lib.hid (B2.out.trans (hb3.mono hz2))
    clear hu hb3
    go_wp2_with fail
    go_ret2
    exact ⟨s, P2.out, S2.out, u, rfl, HU.out, B3.out⟩
end Go.Proofs.Ytjakjnmfndfehaa
