/- total: the sums of all beginnings; lists of the same bits: walks. Condition: at most 65536 numbers. -/
import Derived.Test.YtjakjnmfndfehaaUf
namespace Go.Proofs.Ytjakjnmfndfehaa
open Go.RowKit Go.Pst
set_option maxRecDepth 20000
set_option linter.unusedSimpArgs false
set_option linter.unusedVariables false
/-- A list of n floats as f, but for which no numbers they are, and what more is given. -/
def FlsLike (n : Nat) (f : Nat → Nat) (rest : List Value) (w : World) (en : Ending) (w' : World) : Prop :=
  ∃ B c y, en = .returned (.tuple (.slice B n c :: rest).toArray) ∧ n ≤ c ∧ FlAt w' w'.heap.size B n y ∧ (∀ i, i < n → cn (y i) = cn (f i)) ∧ Below w.heap.size w w'
theorem flat_cap {w : World} {base n : Nat} {e : TypeId} {v : Value} {y : Nat → Nat} (h : w.ownsRow base e 1 v n (nums y n)) : ∃ B cb, v = .slice B n cb ∧ n ≤ cb ∧ FlAt w w.heap.size B n y := by
  rcases h.2 with ⟨h1, h2⟩ | ⟨g, cap, cur, h1, h2, h3, h4, _⟩
  · subst h2; exact ⟨none, 0, h1, Nat.le_refl _, fun h => by omega⟩
  · subst h1
    exact ⟨_, _, rfl, h4, fun _ => ⟨g, 0, rfl, (Array.getElem?_eq_some_iff.1 h3).1, fun i hi => by rw [Nat.zero_add]; exact own_cell h (nums_get y hi)⟩⟩
section
attribute [local go_sem] run_fadd
set_option maxHeartbeats 1000000 in
theorem prefix_any (n c : Nat) (A : Option Addr) (f : Nat → Nat) (w : World) (hA : FlAt w w.heap.size A n f) (hn : n ≤ 65536) :
    Calls Try.prog 44 #[.slice A n c] w (FlsLike n (fun i => keS f (i + 1)) [.int .i64 0] w) := by
  have HLG := Lib.hid fun w => long_f n c A w (by omega)
  rw [decide_eq_false (by omega : ¬ 65536 < n)] at HLG
  have HA := Lib.hid hA
  clear hA
  go_enter Try.func44, Try.ntmps44
  go_wp2_with fail
  refine (HLG.out _).mono ?_
  rintro en w' ⟨rfl, rfl⟩
  go_wp2_with fail
  go_loopw [4, 5, 7, 12] (fun v s x t wr => ∃ (k S : Nat) (y : Nat → Nat) (u : Value), t = .int .i64 k ∧ k ≤ n ∧ Below w.heap.size w wr ∧ s = .float .f64 S ∧ cn S = cn (keS f k) ∧ u = v ∧ wr.ownsRow w.heap.size 24 1 u k (nums y k) ∧ ∀ i, i < k → cn (y i) = cn (keS f (i + 1))) (fun _ _ _ t _ => n - (intOf t).toNat)
  case atStart => exact ⟨0, 0, fun _ => 0, _, rfl, by omega, Below.refl _ _, rfl, rfl, rfl, World.ownsRow_nil _ _ _ _, fun i hi => by omega⟩
  case round =>
    obtain ⟨k, S, y, u, rfl, hk, hbw, rfl, hS, rfl, hown, hy⟩ := hrel
    have BW := Lib.hid hbw; have HS := Lib.hid hS; have OW := Lib.hid hown; have HY := Lib.hid hy
    clear hbw hS hown hy
    by_cases hkn : k < n
    · have h3 : (k : Int) < (n : Int) := by omega
      have h0 : (0 : Int) ≤ (k : Int) := by omega
      obtain ⟨a, o, rfl, ha, hc⟩ := (HA.out.below BW.out (Nat.le_refl _)) (by omega)
      have q := hc k hkn
      have e1 : keS f (k + 1) = arV .add (keS f k) (f k) := rfl
      obtain ⟨x, hx⟩ : ∃ x, x = f k := ⟨_, rfl⟩
      rw [← hx] at q e1
      have HZ : Hid (cn (arU .add wr S x) = cn (keS f (k + 1))) := Lib.hid (by rw [e1]; exact arU_of2 HS.out rfl)
      obtain ⟨z, hz⟩ : ∃ z, z = arU .add wr S x := ⟨_, rfl⟩
      rw [← hz] at HZ
      have HEZ := Lib.hid hz.symm
      clear hc hx e1 hz
      go_wp2_with (at_builtin
                   rw [HEZ.out]
                   refine wpList_floats w _ rfl _ _ rfl rfl ((wIf_below _ _ BW.out).alloc (by simpa using BW.out.size) _) _ k y rfl ((own_below OW.out (wIf_refl _ _)).alloc _) (some ⟨wr.heap.size, 0, none⟩) 1 1 (wr.heap.size + 1) (fun _ => z) rfl ?q8 (by omega) ?_
                   case q8 => have := flat_new (wIf (arD .add S x).isNone wr) 24 z; rwa [wIf_size] at this
                   intro v1 w1 ho1 hb1
                   have O1 := Lib.hid ho1
                   have B1 := Lib.hid hb1
                   clear ho1 hb1)
      go_roundw
      case rel => exact ⟨k + 1, z, _, _, by go_num, by omega, B1.out, rfl, HZ.out, rfl, O1.out, fun i hi => by
        unfold joinR
        split
        · exact HY.out i (by assumption)
        · rw [show i = k by omega]; exact HZ.out⟩
      case measure => (simp [intOf] <;> omega)
    · obtain rfl : k = n := by omega
      obtain ⟨VB, vc, rfl, hvc, fv⟩ := flat_cap OW.out
      have FV := Lib.hid fv
      clear fv
      go_wp2_with fail
      go_ret2
      exact ⟨VB, vc, y, rfl, hvc, FV.out, HY.out, BW.out⟩
end
set_option maxHeartbeats 1000000 in
theorem bits_any (n c d : Nat) (A B : Option Addr) (f g : Nat → Nat) (w : World) (hA : FlAt w w.heap.size A n f) (hB : FlAt w w.heap.size B n g) (hn : n ≤ 1099511627776) (hs : ∀ i, i < n → cn (f i) = cn (g i)) :
    Calls Try.prog 24 #[.slice A n c, .slice B n d] w fun en w' => en = .returned (.bool true) ∧ Below w.heap.size w w' := by
  have HA := Lib.hid hA; have HB := Lib.hid hB; have HS := Lib.hid hs
  clear hA hB hs
  go_enter Try.func24, Try.ntmps24
  go_wp2_with fail
  go_loopw [5] (fun t wr => ∃ k : Nat, t = .int .i64 k ∧ k ≤ n ∧ Below w.heap.size w wr) (fun t _ => n - (intOf t).toNat)
  case atStart => exact ⟨0, rfl, by omega, Below.refl _ _⟩
  case round =>
    obtain ⟨k, rfl, hk, hbw⟩ := hrel
    have BW := Lib.hid hbw
    clear hbw
    by_cases hkn : k < n
    · have h3 : (k : Int) < (n : Int) := by omega
      have h0 : (0 : Int) ≤ (k : Int) := by omega
      obtain ⟨a, o, rfl, ha, hc⟩ := (HA.out.below BW.out (Nat.le_refl _)) (by omega)
      obtain ⟨b, o2, rfl, hbb, hc2⟩ := (HB.out.below BW.out (Nat.le_refl _)) (by omega)
      have q := hc k hkn
      have q2 := hc2 k hkn
      have HX := Lib.hid fun w => psame_any (f k) (g k) w (HS.out k hkn)
      generalize f k = x at q HX
      generalize g k = y at q2 HX
      have hal : a < wr.heap.size := Nat.lt_of_lt_of_le ha BW.out.size
      have hbl : b < wr.heap.size := Nat.lt_of_lt_of_le hbb BW.out.size
      clear hc hc2
      go_wp2_with fail
      refine Reg.wp_region_rd (by kernel_rfl) (by kernel_rfl) (fun _ => ?_)
      repeat (refine Reg.rd_op rfl ?_; apply Exists.intro; apply And.intro; (intro w' hb; have hc := Reg.rd_cells hb; clear hb; go_simp; (try go_bits); first | done | (with_reducible exact rfl)); (intro _ a' ha'; simp only [Act.put, List.setIfInBounds_toArray, List.set_cons_zero, List.set_cons_succ] at ha'; subst ha'))
      refine Reg.rd_op rfl ?_; apply Exists.intro; apply And.intro
      · intro w' hb; have hsz := Reg.rd_size hb; clear hb; go_simp; (try go_bits); exact (HX.out _).mono fun en w'' ⟨e1, e2⟩ => ⟨e1, by rw [← e2]; exact Below.refl _ _⟩
      intro _ a' ha'; simp only [Act.put, List.setIfInBounds_toArray, List.set_cons_zero, List.set_cons_succ] at ha'; subst ha'
      repeat (refine Reg.rd_op rfl ?_; apply Exists.intro; apply And.intro; (intro w' hb; have hc := Reg.rd_cells hb; clear hb; go_simp; (try go_bits); first | done | (with_reducible exact rfl)); (intro _ a' ha'; simp only [Act.put, List.setIfInBounds_toArray, List.set_cons_zero, List.set_cons_succ] at ha'; subst ha'))
      refine Reg.rd_end (fun wz hb => ?_)
      have BW2 := Lib.hid (BW.out.trans (hb.mono BW.out.size))
      clear hb
      go_wp2_with fail
      go_roundw
      case rel => exact ⟨k + 1, by go_num, by omega, BW2.out⟩
      case measure => (simp [intOf] <;> omega)
    · obtain rfl : k = n := by omega
      go_wp2_with fail
      go_ret
      exact ⟨rfl, BW.out⟩
end Go.Proofs.Ytjakjnmfndfehaa
