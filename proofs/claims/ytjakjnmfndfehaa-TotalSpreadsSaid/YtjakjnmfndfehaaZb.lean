/- The variance: here and in the document. Condition: lists of at most 65536. -/
import Derived.Test.YtjakjnmfndfehaaZa
namespace Go.Proofs.Ytjakjnmfndfehaa
open Go.RowKit Go.Pst
set_option maxRecDepth 20000
set_option linter.unusedSimpArgs false
set_option linter.unusedVariables false
attribute [local go_sem] run_fsub run_fquo
theorem variance_zero (c : Nat) (A : Option Addr) (w : World) :
    Calls Try.prog 16 #[.slice A 0 c] w fun en w' => en = .returned (.tuple #[.float .f64 0, .int .i64 1]) ∧ w = w' := by
  go_enter Try.func16, Try.ntmps16
  go_wp2_with fail
  refine (mean_zero c A _).mono ?_
  rintro en w1 ⟨rfl, rfl⟩
  go_wp2_with fail
  go_ret2
  exact ⟨rfl, rfl⟩
theorem vaD_at {f : Nat → Nat} {n k u : Nat} (w : World) (hu : cn u = arV .quo (exactV f n) (fl n)) : cn (arU .sub w (f k) u) = cn (vaD f n k) := by
  unfold vaD
  exact arU_of2 rfl (by rw [hu, cn_arV])
set_option maxHeartbeats 2000000 in
theorem variance_any (n c : Nat) (A : Option Addr) (f : Nat → Nat) (w : World) (hA : FlAt w w.heap.size A n f) (hn : n ≤ 65536) (h0 : n ≠ 0) (hf : ∀ j, j < n → f j < 2 ^ 64) :
    Calls Try.prog 16 #[.slice A n c] w (FeLike (vaV f n) 0 w) := by
  have HM := Lib.hid (mean_any n c A f w hA hn h0 hf)
  have HA := Lib.hid hA
  have HE := Lib.hid fun (B : Option Addr) (cb : Nat) (y : Nat → Nat) (w : World) (h : FlAt w w.heap.size B n y) (hy : ∀ j, j < n → y j < 2 ^ 64) => exactdot_any n cb cb B B y y w h h hn hy hy
  have hfl := floatInt_fl n
  have HV : Hid (∀ y : Nat → Nat, (∀ i, i < n → cn (y i) = cn (vaD f n i)) → arV .quo (exdotV y y n) (fl n) = vaV f n) := Lib.hid (fun y hy => by unfold vaV; rw [exdotV_cn hy])
  generalize vaV f n = V at *
  clear hA hf h0
  go_enter Try.func16, Try.ntmps16
  go_wp2_with fail
  refine HM.out.mono ?_
  rintro en w0 ⟨u, rfl, hu, hb0⟩
  have B0 := Lib.hid hb0
  have HU := Lib.hid hu
  clear hu hb0
  go_wp2_with fail
  go_loopw [6, 8, 21] (fun v x t wr => ∃ (k : Nat) (y : Nat → Nat) (u : Value), t = .int .i64 k ∧ k ≤ n ∧ Below w.heap.size w wr ∧ u = v ∧ wr.ownsRow w.heap.size 24 1 u k (nums y k) ∧ ∀ i, i < k → cn (y i) = cn (vaD f n i) ∧ y i < 2 ^ 64) (fun _ _ t _ => n - (intOf t).toNat)
  case atStart => exact ⟨0, fun _ => 0, _, rfl, by omega, B0.out, rfl, World.ownsRow_nil _ _ _ _, fun i hi => by omega⟩
  case round =>
    clear B0
    obtain ⟨k, y, v0, rfl, hk, hbw, rfl, hown, hy⟩ := hrel
    have BW := Lib.hid hbw; have OW := Lib.hid hown; have HY := Lib.hid hy
    clear hbw hown hy
    by_cases hkn : k < n
    · have h3 : (k : Int) < (n : Int) := by omega
      have h00 : (0 : Int) ≤ (k : Int) := by omega
      obtain ⟨a, o, rfl, ha, hc⟩ := (HA.out.below BW.out (Nat.le_refl _)) (by omega)
      have q := hc k hkn
      obtain ⟨x, hx⟩ : ∃ x, x = f k := ⟨_, rfl⟩
      rw [← hx] at q
      have HZ : Hid (cn (arU .sub wr x u) = cn (vaD f n k)) := Lib.hid (by rw [hx]; exact vaD_at _ HU.out)
      obtain ⟨z, hz⟩ : ∃ z, z = arU .sub wr x u := ⟨_, rfl⟩
      rw [← hz] at HZ
      have HZL : Hid (z < 2 ^ 64) := Lib.hid (by rw [hz]; exact arU_lt _ _ _ _)
      have HEZ := Lib.hid hz.symm
      clear hc hx hz
      go_wp2_with (at_builtin
                   rw [HEZ.out]
                   refine wpList_floats w _ rfl _ _ rfl rfl ((wIf_below _ _ BW.out).alloc (by simpa using BW.out.size) _) _ k y rfl ((own_below OW.out (wIf_refl _ _)).alloc _) (some ⟨wr.heap.size, 0, none⟩) 1 1 (wr.heap.size + 1) (fun _ => z) rfl ?q8 (by omega) ?_
                   case q8 => have := flat_new (wIf (arD .sub x u).isNone wr) 24 z; rwa [wIf_size] at this
                   intro v1 w1 ho1 hb1
                   have O1 := Lib.hid ho1
                   have B1 := Lib.hid hb1
                   clear ho1 hb1)
      go_wp2_with fail
      go_roundw
      case rel => exact ⟨k + 1, _, _, by go_num, by omega, B1.out, rfl, O1.out, fun i hi => by
        unfold joinR
        split
        · exact HY.out i (by assumption)
        · rw [show i = k by omega]; exact ⟨HZ.out, HZL.out⟩⟩
      case measure => (simp [intOf] <;> omega)
    · obtain rfl : k = n := by omega
      obtain ⟨VB, vc, rfl, fv⟩ := flat_of OW.out
      have FV := Lib.hid fv
      clear fv
      go_wp2_with fail
      refine (HE.out _ _ _ _ FV.out (fun j hj => (HY.out j hj).2)).mono ?_
      rintro en w2 ⟨rfl, hb2⟩
      have HVV := Lib.hid (HV.out y fun j hj => (HY.out j hj).1)
      generalize exdotV y y k = X at *
      generalize fl k = F at *
      have B2 := Lib.hid (BW.out.trans (hb2.mono BW.out.size))
      clear hb2
      go_wp2_with fail
      go_ret2
      exact ⟨_, rfl, by rw [cn_arU, HVV.out, ← HVV.out, cn_arV], wIf_below _ _ B2.out⟩
set_option maxHeartbeats 2000000 in
theorem rvariance_any (n c : Nat) (A : Option Addr) (f : Nat → Nat) (w : World) (hA : FlAt w w.heap.size A n f) (hn : n ≤ 65536) (hf : ∀ j, j < n → f j < 2 ^ 64) :
    Calls Try.prog 25 #[.slice A n c] w (FlLike (vaV f n) w) := by
  have HM := Lib.hid (rmean_any n c A f w hA hn hf)
  have HA := Lib.hid hA
  have HE := Lib.hid fun (B : Option Addr) (cb : Nat) (y : Nat → Nat) (w : World) (h : FlAt w w.heap.size B n y) (hy : ∀ j, j < n → y j < 2 ^ 64) => rexactdot_any n cb cb B B y y w h h hn hy hy
  have hfl := floatInt_fl n
  have HV : Hid (∀ y : Nat → Nat, (∀ i, i < n → cn (y i) = cn (vaD f n i)) → arV .quo (rexdotV y y n) (fl n) = vaV f n) := Lib.hid (fun y hy => by
    unfold vaV
    exact arV_cn .quo (by rw [cn_rexdot, exdotV_cn hy]) rfl)
  generalize vaV f n = V at *
  clear hA hf
  go_enter Try.func25, Try.ntmps25
  go_wp2_with fail
  refine HM.out.mono ?_
  rintro en w0 ⟨u, rfl, hu, hb0⟩
  have B0 := Lib.hid hb0
  have HU := Lib.hid hu
  have hz0 := hb0.size
  clear hu hb0
  go_wp2_with fail
  go_loopw [4, 5] (fun v t wr => ∃ (k : Nat) (y : Nat → Nat) (u : Value), t = .int .i64 k ∧ k ≤ n ∧ Below w.heap.size w wr ∧ u = v ∧ wr.ownsRow w.heap.size 24 1 u k (nums y k) ∧ ∀ i, i < k → cn (y i) = cn (vaD f n i) ∧ y i < 2 ^ 64) (fun _ t _ => n - (intOf t).toNat)
  case atStart => exact ⟨0, fun _ => 0, _, rfl, by omega, B0.out.alloc hz0 _, rfl, World.ownsRow_made _ #[] 0 hz0 (by simp [maxLen]) rfl, fun i hi => by omega⟩
  case round =>
    clear B0
    obtain ⟨k, y, v0, rfl, hk, hbw, rfl, hown, hy⟩ := hrel
    have BW := Lib.hid hbw; have OW := Lib.hid hown; have HY := Lib.hid hy
    clear hbw hown hy
    by_cases hkn : k < n
    · have h3 : (k : Int) < (n : Int) := by omega
      have h00 : (0 : Int) ≤ (k : Int) := by omega
      obtain ⟨a, o, rfl, ha, hc⟩ := (HA.out.below BW.out (Nat.le_refl _)) (by omega)
      have q := hc k hkn
      obtain ⟨x, hx⟩ : ∃ x, x = f k := ⟨_, rfl⟩
      rw [← hx] at q
      have HZ : Hid (cn (arU .sub wr x u) = cn (vaD f n k)) := Lib.hid (by rw [hx]; exact vaD_at _ HU.out)
      obtain ⟨z, hz⟩ : ∃ z, z = arU .sub wr x u := ⟨_, rfl⟩
      rw [← hz] at HZ
      have HZL : Hid (z < 2 ^ 64) := Lib.hid (by rw [hz]; exact arU_lt _ _ _ _)
      have HEZ := Lib.hid hz.symm
      clear hc hx hz
      go_wp2_with (at_builtin
                   rw [HEZ.out]
                   refine wpList_floats w _ rfl _ _ rfl rfl ((wIf_below _ _ BW.out).alloc (by simpa using BW.out.size) _) _ k y rfl ((own_below OW.out (wIf_refl _ _)).alloc _) (some ⟨wr.heap.size, 0, none⟩) 1 1 (wr.heap.size + 1) (fun _ => z) rfl ?q8 (by omega) ?_
                   case q8 => have := flat_new (wIf (arD .sub x u).isNone wr) 24 z; rwa [wIf_size] at this
                   intro v1 w1 ho1 hb1
                   have O1 := Lib.hid ho1
                   have B1 := Lib.hid hb1
                   clear ho1 hb1)
      go_wp2_with fail
      go_roundw
      case rel => exact ⟨k + 1, _, _, by go_num, by omega, B1.out, rfl, O1.out, fun i hi => by
        unfold joinR
        split
        · exact HY.out i (by assumption)
        · rw [show i = k by omega]; exact ⟨HZ.out, HZL.out⟩⟩
      case measure => (simp [intOf] <;> omega)
    · obtain rfl : k = n := by omega
      have h3 : ¬ (k : Int) < (k : Int) := by omega
      obtain ⟨VB, vc, rfl, fv⟩ := flat_of OW.out
      have FV := Lib.hid fv
      clear fv
      go_wp2_with fail
      refine (HE.out _ _ _ _ FV.out (fun j hj => (HY.out j hj).2)).mono ?_
      rintro en w2 ⟨rfl, hb2⟩
      have HVV := Lib.hid (HV.out y fun j hj => (HY.out j hj).1)
      generalize rexdotV y y k = X at *
      generalize fl k = F at *
      have B2 := Lib.hid (BW.out.trans (hb2.mono BW.out.size))
      clear hb2
      go_wp2_with fail
      go_ret
      exact ⟨_, rfl, by rw [cn_arU, HVV.out, ← HVV.out, cn_arV], wIf_below _ _ B2.out⟩
end Go.Proofs.Ytjakjnmfndfehaa
