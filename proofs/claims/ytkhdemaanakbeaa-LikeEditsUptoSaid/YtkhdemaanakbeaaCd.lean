/- A distance as a share: here and in the document. No condition. -/
import Derived.Test.YtkhdemaanakbeaaCa
namespace Go.Pst
open Go Ieee Go.RowKit
/-- A distance as a share. -/
def sfV (t s : Nat) : Nat := arV .quo ONE (arV .add ONE (arV .mul s t))
theorem sfV_cn (t s : Nat) : cn (sfV t s) = sfV t s ∧ sfV t s < 2 ^ 64 := ⟨cn_arV _ _ _, arV_lt _ _ _⟩
end Go.Pst
namespace Go.Proofs.Ytkhdemaanakbeaa
open Go.RowKit Go.Pst
set_option maxRecDepth 100000
set_option linter.unusedSimpArgs false
set_option linter.unusedVariables false
attribute [local go_sem] run_fadd run_fmul run_fquo

theorem sf_eq (w1 w2 w3 : World) (t s u : Nat) (h : cn u = t) : cn (arU .quo w1 ONE (arU .add w2 ONE (arU .mul w3 s u))) = sfV t s := by
  have hu : cn u = cn t := by rw [← h, cn_cn]
  unfold sfV
  rw [cn_arU]
  exact arV_cn .quo rfl (by rw [cn_arU, cn_arV]; exact arV_cn .add rfl (by rw [cn_arU, cn_arV]; exact arV_cn .mul rfl hu))

set_option maxHeartbeats 1000000 in
theorem soft_core (cI cO cX cT n m c d np cp sharp : Nat) (A B Ap : Option Addr) (t : Nat) (e : Int) (w : World)
    (hD : ∀ w', Below w.heap.size w w' → Calls Try.prog 13 #[.agg #[.float .f64 cI, .float .f64 cO, .float .f64 cX, .float .f64 cT, .slice Ap np cp], .slice A n c, .slice B m d] w' (SharePost t e w')) :
    Calls Try.prog 31 #[.agg #[.float .f64 cI, .float .f64 cO, .float .f64 cX, .float .f64 cT, .slice Ap np cp], .slice A n c, .slice B m d, .float .f64 sharp] w (SharePost (sfV t sharp) e w) := by
  have HD := Lib.hid hD
  clear hD
  by_cases he : e = 0
  · have HE := Lib.hid he
    subst he
    generalize hv : sfV t sharp = v
    have HV := Lib.hid hv
    clear hv
    go_enter Try.func31, Try.ntmps31
    go_wp2_with fail
    have O := (Reg.Own.nil w).alloc rfl #[.float .f64 cI, .float .f64 cO, .float .f64 cX, .float .f64 cT, .slice Ap np cp] 26
    obtain ⟨c0, f0, z0, y0, -, zz⟩ := O.rules
    have HO := Lib.hid O; clear O
    refine (HD.out _ HO.out.below).mono ?_
    rintro en wn ⟨u, rfl, hu1, hu2, hbn⟩
    have HU := Lib.hid (hu2 rfl)
    have O := HO.out.keep hbn
    clear HO c0 f0 z0 y0 zz
    obtain ⟨c0, f0, z0, y0, -, zz⟩ := O.rules
    have HO := Lib.hid O; clear O
    clear hbn hu1 hu2
    go_wp2_with fail
    go_ret2
    refine ⟨_, rfl, fun h => absurd rfl h, fun _ => ?_, wIf_below _ _ (wIf_below _ _ (wIf_below _ _ HO.out.below))⟩
    rw [← HV.out]
    exact sf_eq _ _ _ _ _ _ HU.out
  · have he2 : (e != 0) = true := by simp [he]
    have HE := Lib.hid he
    clear he
    generalize sfV t sharp = v
    go_enter Try.func31, Try.ntmps31
    go_wp2_with fail
    have O := (Reg.Own.nil w).alloc rfl #[.float .f64 cI, .float .f64 cO, .float .f64 cX, .float .f64 cT, .slice Ap np cp] 26
    obtain ⟨c0, f0, z0, y0, -, zz⟩ := O.rules
    have HO := Lib.hid O; clear O
    refine (HD.out _ HO.out.below).mono ?_
    rintro en wn ⟨u, rfl, hu1, hu2, hbn⟩
    have O := HO.out.keep hbn
    clear HO c0 f0 z0 y0 zz
    obtain ⟨c0, f0, z0, y0, -, zz⟩ := O.rules
    have HO := Lib.hid O; clear O
    clear hbn hu1 hu2
    go_wp2_with fail
    go_ret2
    exact ⟨0, rfl, fun h => rfl, fun h => absurd h HE.out, HO.out.below⟩

set_option maxHeartbeats 1000000 in
theorem rsoft_core (cI cO cX cT n m c d np cp sharp : Nat) (A B Ap : Option Addr) (t : Nat) (w : World)
    (hD : ∀ w', Below w.heap.size w w' → Calls Try.prog 25 #[.agg #[.float .f64 cI, .float .f64 cO, .float .f64 cX, .float .f64 cT, .slice Ap np cp], .slice A n c, .slice B m d] w' (FlLike t w')) :
    Calls Try.prog 32 #[.agg #[.float .f64 cI, .float .f64 cO, .float .f64 cX, .float .f64 cT, .slice Ap np cp], .slice A n c, .slice B m d, .float .f64 sharp] w (FlLike (sfV t sharp) w) := by
  have HD := Lib.hid hD
  clear hD
  generalize hv : sfV t sharp = v
  have HV := Lib.hid hv
  clear hv
  go_enter Try.func32, Try.ntmps32
  go_wp2_with fail
  have O := (Reg.Own.nil w).alloc rfl #[.float .f64 cI, .float .f64 cO, .float .f64 cX, .float .f64 cT, .slice Ap np cp] 39
  obtain ⟨c0, f0, z0, y0, -, zz⟩ := O.rules
  have HO := Lib.hid O; clear O
  refine (HD.out _ HO.out.below).mono ?_
  rintro en wn ⟨u, rfl, hu2, hbn⟩
  have HU := Lib.hid hu2
  have O := HO.out.keep hbn
  clear HO c0 f0 z0 y0 zz
  obtain ⟨c0, f0, z0, y0, -, zz⟩ := O.rules
  have HO := Lib.hid O; clear O
  clear hbn hu2
  go_wp2_with fail
  go_ret
  refine ⟨_, rfl, ?_, wIf_below _ _ (wIf_below _ _ (wIf_below _ _ HO.out.below))⟩
  rw [← HV.out]
  exact sf_eq _ _ _ _ _ _ HU.out
end Go.Proofs.Ytkhdemaanakbeaa
