/- How much is the same, whether it is so near: here and in the document. Conditions: the names and the rows are not too many. -/
import Derived.Test.YtkhdemaanakbeaaLs
import Derived.Test.YtkhdemaanakbeaaAd
namespace Go.Pst
open Go Ieee Go.RowKit
set_option linter.unusedVariables false
set_option linter.unusedSimpArgs false

def ONE : Nat := 4607182418800017408
/-- How much of two names is alike. -/
def shV (t n m : Nat) : Nat := if max n m = 0 then ONE else arV .sub ONE (arV .quo t (fl (max n m)))
/-- At most. -/
def leF (x y : Nat) : Bool := flt .f64 x y || feq .f64 x y

theorem leF_nan {x y : Nat} (h : nan64 x = true) : leF x y = false := by unfold leF; rw [flt64, feq64, h]; rfl
theorem leF_cn {u t y : Nat} (h : cn u = t) (ht : cn t = t) : leF u y = leF t y := by
  have hn : nan64 u = nan64 t := by rw [← cn_nan u, h]
  cases hu : nan64 u
  · rw [cn_of u hu] at h; rw [h]
  · rw [leF_nan hu, leF_nan (hn ▸ hu)]

theorem floatInt_fl (n : Nat) : floatOfInt .f64 (n : Int) = fl n := by
  have h := near_fl (n : Int)
  have e : floatOfInt .f64 (n : Int) = FloatKind.f64.nearest (n : Int) := rfl
  rw [e, h, decide_eq_false (by omega), Int.natAbs_natCast]
  unfold wrd
  rw [if_neg (by simp)]

theorem shV_cn (t n m : Nat) : cn (shV t n m) = shV t n m ∧ shV t n m < 2 ^ 64 := by
  unfold shV
  split
  · exact ⟨by decide, by decide⟩
  · exact ⟨cn_arV _ _ _, arV_lt _ _ _⟩
end Go.Pst
namespace Go.Proofs.Ytkhdemaanakbeaa
open Go.RowKit Go.Pst
set_option maxRecDepth 100000
set_option linter.unusedSimpArgs false
set_option linter.unusedVariables false
attribute [local go_sem] run_fsub run_fquo

def FlLike (t : Nat) (w : World) (en : Ending) (w' : World) : Prop := ∃ u, en = .returned (.float .f64 u) ∧ cn u = t ∧ Below w.heap.size w w'

set_option maxHeartbeats 1000000 in
theorem rdist_any (cI cO cX cT n m c d np cp : Nat) (A B Ap : Option Addr) (p : Nat → Int × Int × Nat) (fa fb : Nat → Int) (w : World) (hA : NameAt w w.heap.size A n fa) (hB : NameAt w w.heap.size B m fb)
    (hn : n ≤ 1048576) (hm : m ≤ 1048576) (hnp : np ≤ 4096) (hp : PairsAt w w.heap.size Ap np p) (hr : Rising np p) :
    Calls Try.prog 25 #[.agg #[.float .f64 cI, .float .f64 cO, .float .f64 cX, .float .f64 cT, .slice Ap np cp], .slice A n c, .slice B m d] w (FlLike (tabT cI cO cX cT p np fa fb n m) w) := by
  have htab := fun w hA hB hp => rtable_any cI cO cX cT n m c d np cp A B Ap p fa fb (tabT cI cO cX cT p np fa fb) w hA hB hn hm hnp hp hr (tabT_is ..)
  generalize tabT cI cO cX cT p np fa fb = T at *
  have HTB := Lib.hid htab; have HP := Lib.hid hp; have HA := Lib.hid hA; have HB := Lib.hid hB
  clear htab hp hA hB hr
  go_enter Try.func25, Try.ntmps25
  go_wp2_with fail
  have O := (Reg.Own.nil w).alloc rfl #[.float .f64 cI, .float .f64 cO, .float .f64 cX, .float .f64 cT, .slice Ap np cp] 39
  obtain ⟨c0, f0, z0, y0, -, zz⟩ := O.rules
  have HO := Lib.hid O; clear O
  refine (HTB.out _ ((HA.out.below HO.out.below (Nat.le_refl _)).more HO.out.size) ((HB.out.below HO.out.below (Nat.le_refl _)).more HO.out.size) ((HP.out.below HO.out.below (Nat.le_refl _)).more HO.out.size)).mono ?_
  rintro en wt ⟨g, cap, R, C, rfl, hbt, hown, hrw⟩
  have dP := own_cell hown (rows_get R C (m + 1) (show n < n + 1 by omega))
  obtain ⟨x, qx, hx⟩ := hrw.cell (show n < n + 1 by omega) (show m < m + 1 by omega)
  have HX := Lib.hid hx
  have hb2 := Lib.hid (HO.out.keep hbt)
  have hn1 : (n : Int) < (n : Int) + 1 := by omega
  have hm1 : (m : Int) < (m : Int) + 1 := by omega
  clear hbt hown hrw hx
  go_wp2_with fail
  go_ret
  exact ⟨x, rfl, HX.out, hb2.out.below⟩

def SharePost (t : Nat) (e : Int) (w : World) (en : Ending) (w' : World) : Prop :=
  ∃ u, en = .returned (.tuple #[.float .f64 u, .int .i64 e]) ∧ (e ≠ 0 → u = 0) ∧ (e = 0 → cn u = t) ∧ Below w.heap.size w w'


set_option maxHeartbeats 1000000 in
theorem share_core (cI cO cX cT n m c d np cp : Nat) (A B Ap : Option Addr) (t : Nat) (e : Int) (w : World) (hn : n ≤ 1048576) (hm : m ≤ 1048576)
    (hD : ∀ w', Below w.heap.size w w' → Calls Try.prog 13 #[.agg #[.float .f64 cI, .float .f64 cO, .float .f64 cX, .float .f64 cT, .slice Ap np cp], .slice A n c, .slice B m d] w' (SharePost t e w')) :
    Calls Try.prog 26 #[.agg #[.float .f64 cI, .float .f64 cO, .float .f64 cX, .float .f64 cT, .slice Ap np cp], .slice A n c, .slice B m d] w (SharePost (shV t n m) e w) := by
  have HD := Lib.hid hD
  clear hD
  by_cases he : e = 0
  · have HE := Lib.hid he
    subst he
    by_cases h0 : max n m = 0
    · have hv : shV t n m = ONE := by unfold shV; rw [if_pos h0]
      rw [hv]
      obtain ⟨rfl, rfl⟩ : n = 0 ∧ m = 0 := by omega
      clear h0 hv hn hm
      go_enter Try.func26, Try.ntmps26
      go_wp2_with fail
      have O := (Reg.Own.nil w).alloc rfl #[.float .f64 cI, .float .f64 cO, .float .f64 cX, .float .f64 cT, .slice Ap np cp] 26
      obtain ⟨c0, f0, z0, y0, -, zz⟩ := O.rules
      have HO := Lib.hid O; clear O
      refine (HD.out _ HO.out.below).mono ?_
      rintro en wn ⟨u, rfl, hu1, hu2, hbn⟩
      have O := HO.out.keep hbn
      clear HO c0 f0 z0 y0 zz
      obtain ⟨c0, f0, z0, y0, -, zz⟩ := O.rules
      have HO := Lib.hid O; clear O
      clear hbn hu1 hu2
      go_wp2_with fail
      go_ret2
      exact ⟨ONE, rfl, fun h => absurd rfl h, fun _ => by decide, HO.out.below⟩
    · have hv : shV t n m = arV .sub ONE (arV .quo t (fl (max n m))) := by unfold shV; rw [if_neg h0]
      rw [hv]
      by_cases hmn : n < m
      · have hN1 : max n m = m := by omega
        rw [hN1]
        have hfl := floatInt_fl m
        have hN0 : ((m : Int) == 0) = false := by simp; omega
        clear hv h0 hN1
        generalize hF : fl m = F at *
        clear hF
        go_enter Try.func26, Try.ntmps26
        go_wp2_with fail
        have O := (Reg.Own.nil w).alloc rfl #[.float .f64 cI, .float .f64 cO, .float .f64 cX, .float .f64 cT, .slice Ap np cp] 26
        obtain ⟨c0, f0, z0, y0, -, zz⟩ := O.rules
        have HO := Lib.hid O; clear O
        refine (HD.out _ HO.out.below).mono ?_
        rintro en wn ⟨u, rfl, hu1, hu2, hbn⟩
        have HU := Lib.hid (hu2 rfl)
        have O := HO.out.keep hbn
        clear HO c0 f0 z0 y0 zz
        obtain ⟨c0, f0, z0, y0, -, zz⟩ := O.rules
        have HO := Lib.hid O; clear O
        clear hbn hu1 hu2
        go_wp2_with fail
        go_ret2
        refine ⟨_, rfl, fun h => absurd rfl h, fun _ => ?_, wIf_below _ _ (wIf_below _ _ HO.out.below)⟩
        rw [cn_arU]
        exact arV_cn .sub rfl (by rw [cn_arU, cn_arV]; exact arV_cn .quo (by rw [HU.out, ← HU.out, cn_cn]) rfl)
      · have hN1 : max n m = n := by omega
        rw [hN1]
        have hfl := floatInt_fl n
        have hN0 : ((n : Int) == 0) = false := by simp; omega
        clear hv h0 hN1
        generalize hF : fl n = F at *
        clear hF
        go_enter Try.func26, Try.ntmps26
        go_wp2_with fail
        have O := (Reg.Own.nil w).alloc rfl #[.float .f64 cI, .float .f64 cO, .float .f64 cX, .float .f64 cT, .slice Ap np cp] 26
        obtain ⟨c0, f0, z0, y0, -, zz⟩ := O.rules
        have HO := Lib.hid O; clear O
        refine (HD.out _ HO.out.below).mono ?_
        rintro en wn ⟨u, rfl, hu1, hu2, hbn⟩
        have HU := Lib.hid (hu2 rfl)
        have O := HO.out.keep hbn
        clear HO c0 f0 z0 y0 zz
        obtain ⟨c0, f0, z0, y0, -, zz⟩ := O.rules
        have HO := Lib.hid O; clear O
        clear hbn hu1 hu2
        go_wp2_with fail
        go_ret2
        refine ⟨_, rfl, fun h => absurd rfl h, fun _ => ?_, wIf_below _ _ (wIf_below _ _ HO.out.below)⟩
        rw [cn_arU]
        exact arV_cn .sub rfl (by rw [cn_arU, cn_arV]; exact arV_cn .quo (by rw [HU.out, ← HU.out, cn_cn]) rfl)
  · have he2 : (e != 0) = true := by simp [he]
    have HE := Lib.hid he
    clear he
    go_enter Try.func26, Try.ntmps26
    go_wp2_with fail
    have O := (Reg.Own.nil w).alloc rfl #[.float .f64 cI, .float .f64 cO, .float .f64 cX, .float .f64 cT, .slice Ap np cp] 26
    obtain ⟨c0, f0, z0, y0, -, zz⟩ := O.rules
    have HO := Lib.hid O; clear O
    refine (HD.out _ HO.out.below).mono ?_
    rintro en wn ⟨u, rfl, hu1, hu2, hbn⟩
    have O := HO.out.keep hbn
    clear HO c0 f0 z0 y0 zz
    obtain ⟨c0, f0, z0, y0, -, zz⟩ := O.rules
    have HO := Lib.hid O; clear O
    clear hbn hu1 hu2
    go_wp2_with fail
    go_ret2
    exact ⟨0, rfl, fun h => rfl, fun h => absurd h HE.out, HO.out.below⟩


set_option maxHeartbeats 1000000 in
theorem rshare_core (cI cO cX cT n m c d np cp : Nat) (A B Ap : Option Addr) (t : Nat) (w : World) (hn : n ≤ 1048576) (hm : m ≤ 1048576)
    (hD : ∀ w', Below w.heap.size w w' → Calls Try.prog 25 #[.agg #[.float .f64 cI, .float .f64 cO, .float .f64 cX, .float .f64 cT, .slice Ap np cp], .slice A n c, .slice B m d] w' (FlLike t w')) :
    Calls Try.prog 28 #[.agg #[.float .f64 cI, .float .f64 cO, .float .f64 cX, .float .f64 cT, .slice Ap np cp], .slice A n c, .slice B m d] w (FlLike (shV t n m) w) := by
  have HD := Lib.hid hD
  clear hD
  by_cases h0 : max n m = 0
  · have hv : shV t n m = ONE := by unfold shV; rw [if_pos h0]
    rw [hv]
    obtain ⟨rfl, rfl⟩ : n = 0 ∧ m = 0 := by omega
    clear h0 hv hn hm
    go_enter Try.func28, Try.ntmps28
    go_wp2_with fail
    have O := (Reg.Own.nil w).alloc rfl #[.float .f64 cI, .float .f64 cO, .float .f64 cX, .float .f64 cT, .slice Ap np cp] 39
    obtain ⟨c0, f0, z0, y0, -, zz⟩ := O.rules
    have HO := Lib.hid O; clear O
    go_ret
    exact ⟨ONE, rfl, by decide, HO.out.below⟩
  · have hv : shV t n m = arV .sub ONE (arV .quo t (fl (max n m))) := by unfold shV; rw [if_neg h0]
    rw [hv]
    by_cases hmn : n < m
    · have hN1 : max n m = m := by omega
      rw [hN1]
      have hfl := floatInt_fl m
      have hN0 : ((m : Int) == 0) = false := by simp; omega
      clear hv h0 hN1
      generalize hF : fl m = F at *
      clear hF
      go_enter Try.func28, Try.ntmps28
      go_wp2_with fail
      have O := (Reg.Own.nil w).alloc rfl #[.float .f64 cI, .float .f64 cO, .float .f64 cX, .float .f64 cT, .slice Ap np cp] 39
      obtain ⟨c0, f0, z0, y0, -, zz⟩ := O.rules
      have HO := Lib.hid O; clear O
      refine (HD.out _ HO.out.below).mono ?_
      rintro en wn ⟨u, rfl, hu2, hbn⟩
      have HU := Lib.hid hu2
      have O := HO.out.keep hbn
      clear HO c0 f0 z0 y0 zz
      obtain ⟨c0, f0, z0, y0, -, zz⟩ := O.rules
      have HO := Lib.hid O; clear O
      clear hbn hu2
      go_wp2_with fail
      go_ret
      refine ⟨_, rfl, ?_, wIf_below _ _ (wIf_below _ _ HO.out.below)⟩
      rw [cn_arU]
      exact arV_cn .sub rfl (by rw [cn_arU, cn_arV]; exact arV_cn .quo (by rw [HU.out, ← HU.out, cn_cn]) rfl)
    · have hN1 : max n m = n := by omega
      rw [hN1]
      have hfl := floatInt_fl n
      have hN0 : ((n : Int) == 0) = false := by simp; omega
      clear hv h0 hN1
      generalize hF : fl n = F at *
      clear hF
      go_enter Try.func28, Try.ntmps28
      go_wp2_with fail
      have O := (Reg.Own.nil w).alloc rfl #[.float .f64 cI, .float .f64 cO, .float .f64 cX, .float .f64 cT, .slice Ap np cp] 39
      obtain ⟨c0, f0, z0, y0, -, zz⟩ := O.rules
      have HO := Lib.hid O; clear O
      refine (HD.out _ HO.out.below).mono ?_
      rintro en wn ⟨u, rfl, hu2, hbn⟩
      have HU := Lib.hid hu2
      have O := HO.out.keep hbn
      clear HO c0 f0 z0 y0 zz
      obtain ⟨c0, f0, z0, y0, -, zz⟩ := O.rules
      have HO := Lib.hid O; clear O
      clear hbn hu2
      go_wp2_with fail
      go_ret
      refine ⟨_, rfl, ?_, wIf_below _ _ (wIf_below _ _ HO.out.below)⟩
      rw [cn_arU]
      exact arV_cn .sub rfl (by rw [cn_arU, cn_arV]; exact arV_cn .quo (by rw [HU.out, ← HU.out, cn_cn]) rfl)

def WithinPost (b : Bool) (e : Int) (w : World) (en : Ending) (w' : World) : Prop := en = .returned (.tuple #[.bool b, .int .i64 e]) ∧ Below w.heap.size w w'

set_option maxHeartbeats 1000000 in
theorem within_core (cI cO cX cT n m c d np cp most : Nat) (A B Ap : Option Addr) (t : Nat) (e : Int) (w : World) (ht : cn t = t)
    (hD : ∀ w', Below w.heap.size w w' → Calls Try.prog 13 #[.agg #[.float .f64 cI, .float .f64 cO, .float .f64 cX, .float .f64 cT, .slice Ap np cp], .slice A n c, .slice B m d] w' (SharePost t e w')) :
    Calls Try.prog 27 #[.agg #[.float .f64 cI, .float .f64 cO, .float .f64 cX, .float .f64 cT, .slice Ap np cp], .slice A n c, .slice B m d, .float .f64 most] w (WithinPost (decide (e = 0) && leF t most) e w) := by
  have HD := Lib.hid hD
  clear hD
  by_cases he : e = 0
  · subst he
    rw [decide_eq_true rfl, Bool.true_and]
    have hle := fun u (h : cn u = t) => leF_cn (y := most) h ht
    have HL := Lib.hid hle
    clear hle
    go_enter Try.func27, Try.ntmps27
    go_wp2_with fail
    have O := (Reg.Own.nil w).alloc rfl #[.float .f64 cI, .float .f64 cO, .float .f64 cX, .float .f64 cT, .slice Ap np cp] 26
    obtain ⟨c0, f0, z0, y0, -, zz⟩ := O.rules
    have HO := Lib.hid O; clear O
    refine (HD.out _ HO.out.below).mono ?_
    rintro en wn ⟨u, rfl, hu1, hu2, hbn⟩
    have HU := Lib.hid (HL.out u (hu2 rfl))
    have O := HO.out.keep hbn
    clear HO c0 f0 z0 y0 zz
    obtain ⟨c0, f0, z0, y0, -, zz⟩ := O.rules
    have HO := Lib.hid O; clear O
    clear hbn hu1 hu2
    go_wp2_with fail
    go_ret2
    exact ⟨by rw [← HU.out]; rfl, HO.out.below⟩
  · rw [decide_eq_false he, Bool.false_and]
    have he2 : (e == 0) = false := by simp [he]
    clear he
    go_enter Try.func27, Try.ntmps27
    go_wp2_with fail
    have O := (Reg.Own.nil w).alloc rfl #[.float .f64 cI, .float .f64 cO, .float .f64 cX, .float .f64 cT, .slice Ap np cp] 26
    obtain ⟨c0, f0, z0, y0, -, zz⟩ := O.rules
    have HO := Lib.hid O; clear O
    refine (HD.out _ HO.out.below).mono ?_
    rintro en wn ⟨u, rfl, hu1, hu2, hbn⟩
    have O := HO.out.keep hbn
    clear HO c0 f0 z0 y0 zz
    obtain ⟨c0, f0, z0, y0, -, zz⟩ := O.rules
    have HO := Lib.hid O; clear O
    clear hbn hu1 hu2
    go_wp2_with fail
    go_ret2
    exact ⟨by first | rfl | simp, HO.out.below⟩
end Go.Proofs.Ytkhdemaanakbeaa
