/- The document's lesser number, and what one letter costs. Conditions: the rows of costs rise. -/
import Derived.Test.YtkhdemaanakbeaaLl
namespace Go.Proofs.Ytkhdemaanakbeaa
open Go.RowKit Go.Pst
set_option maxRecDepth 100000
set_option linter.unusedSimpArgs false
set_option linter.unusedVariables false

theorem rorder_any (a b : Nat) (w : World) (ha : a < 2 ^ 64) (hb : b < 2 ^ 64) : Calls Try.prog 29 #[.float .f64 a, .float .f64 b] w fun en w' => en = .returned (.int .i64 (cmpI (ordK a) (ordK b))) ∧ w = w' := by
  have H1 := Lib.hid fun w => rkey_any a w ha
  have H2 := Lib.hid fun w => rkey_any b w hb
  obtain ⟨r, hr⟩ : ∃ r, r = cmpI (ordK a) (ordK b) := ⟨_, rfl⟩
  rw [← hr]
  unfold cmpI at hr
  generalize ordK a = x at *
  generalize ordK b = y at *
  have hx : x < y ∨ (¬ x < y ∧ y < x) ∨ (¬ x < y ∧ ¬ y < x) := by omega
  rcases hx with h | ⟨h, h2⟩ | ⟨h, h2⟩
  · rw [if_pos h] at hr
    have HR := Lib.hid hr; clear hr
    go_enter Try.func29, Try.ntmps29
    go_wp2_with (first | ((with_reducible refine (H1.out _).mono ?_); rintro en w' ⟨rfl, rfl⟩) | ((with_reducible refine (H2.out _).mono ?_); rintro en w' ⟨rfl, rfl⟩))
    go_ret
    exact ⟨ret_int (by rw [HR.out]), rfl⟩
  · rw [if_neg h, if_pos h2] at hr
    have HR := Lib.hid hr; clear hr
    go_enter Try.func29, Try.ntmps29
    go_wp2_with (first | ((with_reducible refine (H1.out _).mono ?_); rintro en w' ⟨rfl, rfl⟩) | ((with_reducible refine (H2.out _).mono ?_); rintro en w' ⟨rfl, rfl⟩))
    go_ret
    exact ⟨ret_int (by rw [HR.out]), rfl⟩
  · rw [if_neg h, if_neg h2] at hr
    have HR := Lib.hid hr; clear hr
    go_enter Try.func29, Try.ntmps29
    go_wp2_with (first | ((with_reducible refine (H1.out _).mono ?_); rintro en w' ⟨rfl, rfl⟩) | ((with_reducible refine (H2.out _).mono ?_); rintro en w' ⟨rfl, rfl⟩))
    go_ret
    exact ⟨ret_int (by rw [HR.out]), rfl⟩

theorem least_any (a b : Nat) (w : World) (ha : nan64 a = false → a < 2 ^ 64) (hb : nan64 b = false → b < 2 ^ 64) :
    Calls Try.prog 50 #[.float .f64 a, .float .f64 b] w fun en w' => en = .returned (.float .f64 (minF a b)) ∧ w = w' := by
  obtain ⟨r, hr⟩ : ∃ r, r = minF a b := ⟨_, rfl⟩
  rw [← hr]
  unfold minF at hr
  have e1 := fne_self a
  have e2 := fne_self b
  cases hna : nan64 a
  · rw [hna] at hr e1
    cases hnb : nan64 b
    · rw [hnb] at hr e2
      simp only [Bool.false_eq_true, if_false] at hr
      have H3 := Lib.hid fun w => rorder_any b a w (hb hnb) (ha hna)
      have hc : (cmpI (ordK b) (ordK a) < 0) ↔ ¬ ordK a ≤ ordK b := by unfold cmpI; (repeat' split) <;> omega
      generalize cmpI (ordK b) (ordK a) = c at *
      clear ha hb hna hnb
      by_cases h : c < 0
      · rw [if_neg (hc.1 h)] at hr
        subst hr
        clear hc
        go_enter Try.func50, Try.ntmps50
        go_wp2_with fail
        refine (H3.out _).mono ?_
        rintro en w' ⟨rfl, rfl⟩
        go_wp2_with fail
        go_ret
        exact ⟨rfl, rfl⟩
      · have h' : ordK a ≤ ordK b := by
          rcases Int.lt_or_le (ordK b) (ordK a) with hx | hx
          · exact absurd (hc.2 (by omega)) h
          · exact hx
        rw [if_pos h'] at hr
        subst hr
        clear hc h'
        go_enter Try.func50, Try.ntmps50
        go_wp2_with fail
        refine (H3.out _).mono ?_
        rintro en w' ⟨rfl, rfl⟩
        go_wp2_with fail
        go_ret
        exact ⟨rfl, rfl⟩
    · rw [hnb] at hr e2
      simp only [Bool.false_eq_true, if_false, if_true] at hr
      subst hr
      clear ha hb hna hnb
      go_enter Try.func50, Try.ntmps50
      go_wp2_with fail
      go_ret
      exact ⟨rfl, rfl⟩
  · rw [hna] at hr e1
    simp only [if_true] at hr
    subst hr
    clear ha hb hna
    go_enter Try.func50, Try.ntmps50
    go_wp2_with fail
    go_ret
    exact ⟨rfl, rfl⟩

theorem leastup (V1 V2 y1 y2 : Nat) (w : World) (h1 : cn y1 = cn V1) (h2 : cn y2 = cn V2) (l1 : V1 < 2 ^ 64) (l2 : V2 < 2 ^ 64) :
    Calls Try.prog 50 #[.float .f64 y1, .float .f64 y2] w fun e w'' => ∃ u, e = .returned u ∧ (u = .float .f64 (minF V1 V2) ∨ (true = true ∧ Reg.Veq u (.float .f64 (minF V1 V2)))) ∧ Below w.heap.size w w'' :=
  (least_any y1 y2 w (fun h => by have := cn_lt l1; rw [← h1, cn_of y1 h] at this; exact this) (fun h => by have := cn_lt l2; rw [← h2, cn_of y2 h] at this; exact this)).mono
    fun en w'' ⟨e1, e2⟩ => ⟨_, e1, .inr ⟨rfl, veq_of_cn (by rw [cn_minF, cn_minF, h1, h2])⟩, by subst e2; exact Below.refl _ _⟩

/-- The cost by the first row that says it, from row k on. -/
theorem putV_first {p : Nat → Int × Int × Nat} {n : Nat} (hr : Rising n p) (O : Nat) (a b : Int) (k : Nat) (hk : k < n) (hm : (p k).1 = a ∧ (p k).2.1 = b) : putV p O a b n = widV (p k).2.2 :=
  putV_at p O a b k hm n hk fun i hi h => rising_inj hr hi hk (by omega)

theorem run_wid_cost' (c : Nat) (w : World) : Sem.run Try.prog (convert 33 23 (.float .f32 c)) w = .ok (.float .f64 (widU w c)) (wIf (widD c).isNone w) := run_wid _ _ _ c w (by kernel_rfl) Try.underlying23
attribute [local go_sem] run_wid_cost'

set_option maxHeartbeats 2000000 in
theorem rput_any (cI cO cX cT : Nat) (A : Option Addr) (n c : Nat) (p : Nat → Int × Int × Nat) (a b : Int) (w : World) (hn : n ≤ 4096) (hp : PairsAt w w.heap.size A n p) (hr : Rising n p) :
    Calls Try.prog 51 #[.agg #[.float .f64 cI, .float .f64 cO, .float .f64 cX, .float .f64 cT, .slice A n c], .int .i32 a, .int .i32 b] w (OthPost (cn (othV p n cX a b)) w) := by
  by_cases hab : a = b
  · subst hab
    have e : cn (othV p n cX a a) = 0 := by unfold othV; rw [if_pos rfl]; decide
    rw [e]
    go_enter Try.func51, Try.ntmps51
    go_wp2
    go_ret
    exact ⟨0, rfl, by decide, (Below.refl _ _).alloc (Nat.le_refl _) _⟩
  · have e : othV p n cX a b = putV p cX a b n := by unfold othV; rw [if_neg hab]
    rw [e]
    have HP := Lib.hid hp; have HR := Lib.hid hr; clear hp hr e
    have ha : (a == b) = false := by simpa using hab
    clear hab
    go_enter Try.func51, Try.ntmps51
    go_wp2_with fail
    go_loopw [7] (fun t wr => ∃ k : Nat, t = .int .i64 k ∧ k ≤ n ∧ (∀ i, i < k → ¬ ((p i).1 = a ∧ (p i).2.1 = b)) ∧ Reg.Own w wr [(w.heap.size, #[.float .f64 cI, .float .f64 cO, .float .f64 cX, .float .f64 cT, .slice A n c], 39)]) (fun t _ => n - (intOf t).toNat)
    case atStart => exact ⟨0, rfl, by omega, fun i h => by omega, (Reg.Own.nil w).alloc rfl _ _⟩
    case round =>
      obtain ⟨k, rfl, hk, hl, HO'⟩ := hrel
      have HL := Lib.hid hl; clear hl
      have O := HO'
      obtain ⟨c0, f0, z0, y0, -, zz⟩ := O.rules
      have HO := Lib.hid O; clear O
      by_cases hkn : k < n
      · obtain ⟨g, off, rfl, hg, hcell⟩ := (HP.out.below HO.out.below (Nat.le_refl _)) (by omega)
        obtain ⟨q1, q2, q3⟩ := hcell k hkn
        have hg2 : g < wr.heap.size := by omega
        have hk1 : (k : Int) < (n : Int) := by omega
        clear hcell
        cases t1 : ((p k).1 == a)
        · have HK := Lib.hid t1
          go_wp2_with fail
          go_roundw
          case rel => exact ⟨k + 1, by go_num, by omega, fun i hi => (by
            rcases Nat.lt_or_ge i k with hx | hx
            · exact HL.out i hx
            · obtain rfl : i = k := by omega
              intro h; have := HK.out; simp [h.1] at this), HO.out⟩
          case measure => simp [intOf]; omega
        · cases t2 : ((p k).2.1 == b)
          · have HK := Lib.hid t2
            go_wp2_with fail
            go_roundw
            case rel => exact ⟨k + 1, by go_num, by omega, fun i hi => (by
              rcases Nat.lt_or_ge i k with hx | hx
              · exact HL.out i hx
              · obtain rfl : i = k := by omega
                intro h; have := HK.out; simp [h.2] at this), HO.out⟩
            case measure => simp [intOf]; omega
          · have HV := Lib.hid (putV_first HR.out cX a b k hkn ⟨by simpa using t1, by simpa using t2⟩)
            go_wp2_with fail
            go_ret
            exact ⟨_, rfl, by rw [HV.out, cn_widV]; exact cn_widU _ _, wIf_below _ _ HO.out.below⟩
      · obtain rfl : k = n := by omega
        have hk1 : ¬ (k : Int) < (k : Int) := by omega
        have HV := Lib.hid (putV_none p cX a b k HL.out)
        go_wp2_with fail
        go_ret
        exact ⟨cX, rfl, by rw [HV.out], HO.out.below⟩

end Go.Proofs.Ytkhdemaanakbeaa
