/- What one letter costs, put for another. Conditions: the rows of costs rise. -/
import Derived.Test.YtkhdemaanakbeaaLc
namespace Go.Proofs.Ytkhdemaanakbeaa
open Go.RowKit Go.Pst
set_option maxRecDepth 20000
set_option linter.unusedSimpArgs false
set_option linter.unusedVariables false

/-- The rows rise, and none puts a letter for itself. -/
def Rising (n : Nat) (p : Nat → Int × Int × Nat) : Prop := ∀ i j, i < j → j < n → ordC (p i).1 (p i).2.1 (p j).1 (p j).2.1 < 0

theorem ordC_spec (a b a' b' : Int) : (ordC a b a' b' < 0 ↔ a < a' ∨ (a = a' ∧ b < b')) ∧ (ordC a b a' b' = 0 ↔ a = a' ∧ b = b') := by
  unfold ordC cmpI
  (repeat' split) <;> constructor <;> omega

theorem rising_mono {n : Nat} {p : Nat → Int × Int × Nat} (h : Rising n p) (a b : Int) : ∀ i j, i ≤ j → j < n → cpr p a b j < 0 → cpr p a b i < 0 := fun i j hij hj hc => by
  rcases Nat.lt_or_ge i j with hlt | hge
  · have h1 := (ordC_spec _ _ _ _).1.1 (h i j hlt hj)
    unfold cpr at hc ⊢
    have h2 := (ordC_spec _ _ _ _).1.1 hc
    exact (ordC_spec _ _ _ _).1.2 (by omega)
  · obtain rfl : i = j := by omega
    exact hc

/-- The cost of b put for a: by the first row that says it. -/
def putV (p : Nat → Int × Int × Nat) (O : Nat) (a b : Int) : Nat → Nat
  | 0 => O
  | n + 1 => if (p n).1 = a ∧ (p n).2.1 = b then widV (p n).2.2 else putV p O a b n

def othV (p : Nat → Int × Int × Nat) (n O : Nat) (a b : Int) : Nat := if a = b then 0 else putV p O a b n

theorem putV_none (p : Nat → Int × Int × Nat) (O : Nat) (a b : Int) : ∀ n, (∀ i, i < n → ¬ ((p i).1 = a ∧ (p i).2.1 = b)) → putV p O a b n = O
  | 0, _ => rfl
  | n + 1, h => by rw [putV, if_neg (h n (by omega))]; exact putV_none p O a b n fun i hi => h i (by omega)

theorem putV_at (p : Nat → Int × Int × Nat) (O : Nat) (a b : Int) (k : Nat) (hk : (p k).1 = a ∧ (p k).2.1 = b) : ∀ n, k < n → (∀ i, i < n → (p i).1 = a ∧ (p i).2.1 = b → i = k) → putV p O a b n = widV (p k).2.2
  | 0, h, _ => by omega
  | n + 1, h, hu => by
    rw [putV]
    by_cases hn : (p n).1 = a ∧ (p n).2.1 = b
    · rw [if_pos hn]
      have := hu n (by omega) hn
      subst this; rfl
    · rw [if_neg hn]
      refine putV_at p O a b k hk n ?_ fun i hi => hu i (by omega)
      rcases Nat.lt_or_ge k n with h1 | h1
      · exact h1
      · obtain rfl : k = n := by omega
        exact absurd hk hn

theorem rising_inj {n : Nat} {p : Nat → Int × Int × Nat} (h : Rising n p) {i j : Nat} (hi : i < n) (hj : j < n) (h1 : (p i).1 = (p j).1 ∧ (p i).2.1 = (p j).2.1) : i = j := by
  rcases Nat.lt_trichotomy i j with hlt | he | hlt
  · have := (ordC_spec _ _ _ _).1.1 (h i j hlt hj); omega
  · exact he
  · have := (ordC_spec _ _ _ _).1.1 (h j i hlt hi); omega

theorem PairsAt.more {w : World} {B B' : Nat} {A : Option Addr} {n : Nat} {p : Nat → Int × Int × Nat} (h : PairsAt w B A n p) (hB : B ≤ B') : PairsAt w B' A n p := fun hn => by
  obtain ⟨b, off, h1, h2, h3⟩ := h hn
  exact ⟨b, off, h1, by omega, h3⟩

def OthPost (V : Nat) (w : World) (en : Ending) (w' : World) : Prop := ∃ u, en = .returned (.float .f64 u) ∧ cn u = V ∧ Below w.heap.size w w'

attribute [local go_sem] run_wid
theorem run_wid_cost (c : Nat) (w : World) : Sem.run Try.prog (convert 33 23 (.float .f32 c)) w = .ok (.float .f64 (widU w c)) (wIf (widD c).isNone w) := run_wid _ _ _ c w (by kernel_rfl) Try.underlying23
attribute [local go_sem] run_wid_cost

set_option maxHeartbeats 1000000 in
theorem other_any (cI cO cX cT : Nat) (A : Option Addr) (n c : Nat) (p : Nat → Int × Int × Nat) (a b : Int) (w : World) (hn : n ≤ 4096) (hp : PairsAt w w.heap.size A n p) (hr : Rising n p) :
    Calls Try.prog 61 #[.agg #[.float .f64 cI, .float .f64 cO, .float .f64 cX, .float .f64 cT, .slice A n c], .int .i32 a, .int .i32 b] w (OthPost (cn (othV p n cX a b)) w) := by
  by_cases hab : a = b
  · subst hab
    have e : cn (othV p n cX a a) = 0 := by unfold othV; rw [if_pos rfl]; decide
    rw [e]
    go_enter Try.func61, Try.ntmps61
    go_wp2
    go_ret
    exact ⟨0, rfl, by decide, (Below.refl _ _).alloc (Nat.le_refl _) _⟩
  · have e : othV p n cX a b = putV p cX a b n := by unfold othV; rw [if_neg hab]
    rw [e]
    have hB := fun w hp => bsearch_any A n c p a b 0 w hn hp (rising_mono hr a b)
    have HB := Lib.hid hB; clear hB e
    have HP := Lib.hid hp; have HR := Lib.hid hr; clear hp hr
    have ha : (a == b) = false := by simpa using hab
    clear hab
    go_enter Try.func61, Try.ntmps61
    go_wp2_with fail
    have O := (Reg.Own.nil w).alloc rfl #[.float .f64 cI, .float .f64 cO, .float .f64 cX, .float .f64 cT, .slice A n c] 26
    obtain ⟨c0, f0, z0, y0, -, zz⟩ := O.rules
    have HO := Lib.hid O; clear O
    refine (HB.out _ (HP.out.below HO.out.below (Nat.le_refl _) |>.more HO.out.size)).mono ?_
    rintro en wn ⟨lo, hlo, h1, h2, rfl, hbn⟩
    have O := HO.out.keep hbn
    clear HO c0 f0 z0 y0 zz
    obtain ⟨c0, f0, z0, y0, -, zz⟩ := O.rules
    have HO := Lib.hid O; clear O
    have HP2 := Lib.hid (HP.out.below HO.out.below (Nat.le_refl _))
    clear HB hbn
    obtain ⟨f, hf⟩ : ∃ f, f = (decide (lo < n) && cpr p a b lo == 0) := ⟨_, rfl⟩
    rw [← hf]
    cases f
    · have hno : putV p cX a b n = cX := putV_none p cX a b n fun i hi hm => by
        have hc : cpr p a b i = 0 := (ordC_spec _ _ _ _).2.2 hm
        rcases Nat.lt_or_ge i lo with hlt | hge
        · have := h1 i hlt; omega
        · have hl : lo < n := by omega
          have h0 := h2 lo (Nat.le_refl _) hl
          have hne : cpr p a b lo ≠ 0 := by
            intro h; rw [h, decide_eq_true hl] at hf; cases hf
          rcases Nat.lt_or_ge lo i with hl2 | hl2
          · have hx := (ordC_spec _ _ _ _).1.1 (HR.out lo i hl2 hi)
            have hlo' : ¬ cpr p a b lo < 0 := by omega
            unfold cpr at hlo' hne
            rw [(ordC_spec _ _ _ _).1] at hlo'
            rw [ne_eq, (ordC_spec _ _ _ _).2] at hne
            omega
          · obtain rfl : i = lo := by omega
            exact hne hc
      have HN := Lib.hid hno
      clear hno h1 h2 hf HP HP2 HR
      go_wp2_with fail
      go_ret
      exact ⟨cX, rfl, by rw [HN.out], HO.out.below⟩
    · have hf' : lo < n ∧ cpr p a b lo = 0 := by simpa using hf.symm
      have hm := (ordC_spec _ _ _ _).2.1 hf'.2
      have hv : putV p cX a b n = widV (p lo).2.2 := putV_at p cX a b lo hm n hf'.1 fun i hi h => rising_inj HR.out hi hf'.1 (by omega)
      have HN := Lib.hid hv
      obtain ⟨g, off, rfl, hg, hcell⟩ := HP2.out (by omega)
      obtain ⟨-, -, q3⟩ := hcell lo hf'.1
      have hl1 : lo < n := hf'.1
      clear hcell hv hm hf' hf h1 h2 HP HP2 HR
      go_wp2_with fail
      go_ret
      exact ⟨_, rfl, by rw [HN.out, cn_widV]; exact cn_widU _ _, wIf_below _ _ HO.out.below⟩

end Go.Proofs.Ytkhdemaanakbeaa
