/- What is wrong with costs and names; the distance; are names too long; the same names; the program is awake. Condition: the names are not too long. -/
import Derived.Test.YtkhdemaanakbeaaLh
namespace Go.Proofs.Ytkhdemaanakbeaa
open Go.RowKit Go.Pst
set_option maxRecDepth 100000
set_option linter.unusedSimpArgs false
set_option linter.unusedVariables false

def wideB (n m : Nat) : Bool := decide (4194304 < (n + 1) * (m + 1))
def errN (p : Nat → Int × Int × Nat) (np n m : Nat) : Int := if (chkN p np).2 ≠ 0 then 270 else if wideB n m then 271 else 0

/-- The table's numbers. -/
def tabT (cI cO cX cT : Nat) (p : Nat → Int × Int × Nat) (np : Nat) (fa fb : Nat → Int) : Nat → Nat → Nat :=
  tab cI cO cT (fun i j => othV p np cX (fa i) (fb j)) (fun i j => tnB fa fb (i + 1) (j + 1))

theorem tabT_is (cI cO cX cT : Nat) (p : Nat → Int × Int × Nat) (np : Nat) (fa fb : Nat → Int) :
    TabIs (tabT cI cO cX cT p np fa fb) cI cO cT (fun i j => othV p np cX (fa i) (fb j)) fa fb where
  z := by unfold tabT; rw [tab]
  o i := by unfold tabT; rw [tab]
  i j := by unfold tabT; rw [tab]
  s i j h := by unfold tabT; rw [tab, if_neg (by rw [h]; simp)]
  t i j h := by unfold tabT; rw [tab, if_pos h]; rfl
  cn i j := (tab_cn ..).1
  lt i j := (tab_cn ..).2

theorem wide_div (n m : Nat) : (((4194304 : Int) / ((m : Int) + 1)) < (n : Int) + 1) ↔ wideB n m = true := by
  unfold wideB
  rw [decide_eq_true_iff]
  have h : (4194304 : Int) / ((m : Int) + 1) = ((4194304 / (m + 1) : Nat) : Int) := by simp
  rw [h]
  have h2 : 4194304 / (m + 1) < n + 1 ↔ 4194304 < (n + 1) * (m + 1) := Nat.div_lt_iff_lt_mul (by omega)
  rw [← h2]; omega

set_option maxHeartbeats 1000000 in
theorem may_any (cI cO cX cT n m c d np cp : Nat) (A B Ap : Option Addr) (p : Nat → Int × Int × Nat) (w : World)
    (hn : n ≤ 1048576) (hm : m ≤ 1048576) (hnp : np ≤ 1048576) (hp : PairsAt w w.heap.size Ap np p) :
    Calls Try.prog 46 #[.agg #[.float .f64 cI, .float .f64 cO, .float .f64 cX, .float .f64 cT, .slice Ap np cp], .slice A n c, .slice B m d] w
      fun en w' => en = .returned (.int .i64 (errN p np n m)) ∧ Below w.heap.size w w' := by
  have hc := fun w hp => check_any cI cO cX cT Ap np cp p w hnp hp
  obtain ⟨e, he⟩ : ∃ e, e = errN p np n m := ⟨_, rfl⟩
  rw [← he]
  unfold errN at he
  have hor := chk_or p np
  generalize chkN p np = r at *
  obtain ⟨r1, r2⟩ := r
  simp only at he hor
  have HC := Lib.hid hc; have HP := Lib.hid hp; have HE := Lib.hid he
  clear hc hp he
  have hq := wide_div n m
  have hq0 : (0 : Int) ≤ (4194304 : Int) / ((m : Int) + 1) := Int.ediv_nonneg (by omega) (by omega)
  have hq1 : (4194304 : Int) / ((m : Int) + 1) ≤ 4194304 := Int.ediv_le_self _ (by omega)
  obtain ⟨q, hqe⟩ : ∃ q : Int, q = (4194304 : Int) / ((m : Int) + 1) := ⟨_, rfl⟩
  rw [← hqe] at hq hq0 hq1
  have hqe' := hqe.symm
  clear hqe
  by_cases h0 : r2 = 0
  · subst h0
    cases hw : wideB n m
    · rw [hw] at hq
      have h1 : ¬ q < (n : Int) + 1 := by simpa using hq
      have HW := Lib.hid hw; clear hw hq hor
      go_enter Try.func46, Try.ntmps46
      go_wp2_with fail
      have O := (Reg.Own.nil w).alloc rfl #[.float .f64 cI, .float .f64 cO, .float .f64 cX, .float .f64 cT, .slice Ap np cp] 26
      obtain ⟨c0, f0, z0, y0, -, zz⟩ := O.rules
      have HO := Lib.hid O; clear O
      refine (HC.out _ ((HP.out.below HO.out.below (Nat.le_refl _)).more HO.out.size)).mono ?_
      rintro en wn ⟨rfl, hbn⟩
      have O := HO.out.keep hbn
      clear HO c0 f0 z0 y0 zz
      obtain ⟨c0, f0, z0, y0, -, zz⟩ := O.rules
      have HO := Lib.hid O; clear O
      clear hbn
      go_wp2_with fail
      go_ret
      exact ⟨ret_int (by rw [HE.out, HW.out]; simp), HO.out.below⟩
    · rw [hw] at hq
      have h1 : q < (n : Int) + 1 := by simpa using hq
      have HW := Lib.hid hw; clear hw hq hor
      go_enter Try.func46, Try.ntmps46
      go_wp2_with fail
      have O := (Reg.Own.nil w).alloc rfl #[.float .f64 cI, .float .f64 cO, .float .f64 cX, .float .f64 cT, .slice Ap np cp] 26
      obtain ⟨c0, f0, z0, y0, -, zz⟩ := O.rules
      have HO := Lib.hid O; clear O
      refine (HC.out _ ((HP.out.below HO.out.below (Nat.le_refl _)).more HO.out.size)).mono ?_
      rintro en wn ⟨rfl, hbn⟩
      have O := HO.out.keep hbn
      clear HO c0 f0 z0 y0 zz
      obtain ⟨c0, f0, z0, y0, -, zz⟩ := O.rules
      have HO := Lib.hid O; clear O
      clear hbn
      go_wp2_with fail
      go_ret
      exact ⟨ret_int (by rw [HE.out, HW.out]; simp), HO.out.below⟩
  · obtain rfl : r2 = 270 := by omega
    clear hq hor hq0 hq1 hqe'
    go_enter Try.func46, Try.ntmps46
    go_wp2_with fail
    have O := (Reg.Own.nil w).alloc rfl #[.float .f64 cI, .float .f64 cO, .float .f64 cX, .float .f64 cT, .slice Ap np cp] 26
    obtain ⟨c0, f0, z0, y0, -, zz⟩ := O.rules
    have HO := Lib.hid O; clear O
    refine (HC.out _ ((HP.out.below HO.out.below (Nat.le_refl _)).more HO.out.size)).mono ?_
    rintro en wn ⟨rfl, hbn⟩
    have O := HO.out.keep hbn
    clear HO c0 f0 z0 y0 zz
    obtain ⟨c0, f0, z0, y0, -, zz⟩ := O.rules
    have HO := Lib.hid O; clear O
    clear hbn
    go_wp2_with fail
    go_ret
    exact ⟨ret_int (by rw [HE.out]; simp), HO.out.below⟩

theorem err_ok {p : Nat → Int × Int × Nat} {np n m : Nat} (h : errN p np n m = 0) : np ≤ 4096 ∧ Rising np p ∧ (n + 1) * (m + 1) ≤ 4194304 ∧ (∀ i, i < np → badB p i = false) := by
  unfold errN at h
  rcases chk_or p np with ⟨h1, h2, h3, h4⟩ | h1
  · rw [h1] at h
    simp only [ne_eq, not_true_eq_false, if_false] at h
    split at h
    · cases h
    · rename_i hw; unfold wideB at hw; simp at hw; exact ⟨h3, rising_of h4, hw, h4⟩
  · rw [h1] at h; simp at h

def DistPost (T : Nat → Nat → Nat) (e : Int) (n m : Nat) (w : World) (en : Ending) (w' : World) : Prop :=
  ∃ u, en = .returned (.tuple #[.float .f64 u, .int .i64 e]) ∧ (e ≠ 0 → u = 0) ∧ (e = 0 → cn u = T n m) ∧ Below w.heap.size w w'

set_option maxHeartbeats 1000000 in
theorem dist_any (cI cO cX cT n m c d np cp : Nat) (A B Ap : Option Addr) (p : Nat → Int × Int × Nat) (fa fb : Nat → Int) (w : World) (hA : NameAt w w.heap.size A n fa) (hB : NameAt w w.heap.size B m fb)
    (hn : n ≤ 1048576) (hm : m ≤ 1048576) (hnp : np ≤ 1048576) (hp : PairsAt w w.heap.size Ap np p) :
    Calls Try.prog 13 #[.agg #[.float .f64 cI, .float .f64 cO, .float .f64 cX, .float .f64 cT, .slice Ap np cp], .slice A n c, .slice B m d] w
      (DistPost (tabT cI cO cX cT p np fa fb) (errN p np n m) n m w) := by
  have hmay := fun w hp => may_any cI cO cX cT n m c d np cp A B Ap p w hn hm hnp hp
  have htab := fun w hA hB hp h1 h2 => table_any cI cO cX cT n m c d np cp A B Ap p fa fb (tabT cI cO cX cT p np fa fb) w hA hB hn hm h1 hp h2 (tabT_is ..)
  have hok := @err_ok p np n m
  generalize tabT cI cO cX cT p np fa fb = T at *
  generalize errN p np n m = e at *
  have HM := Lib.hid hmay; have HTB := Lib.hid htab; have HP := Lib.hid hp; have HA := Lib.hid hA; have HB := Lib.hid hB
  clear hmay htab hp hA hB
  by_cases he : e = 0
  · subst he
    obtain ⟨k1, k2, k3, -⟩ := hok rfl
    have HR := Lib.hid k2
    clear hok k2 k3
    go_enter Try.func13, Try.ntmps13
    go_wp2_with fail
    have O := (Reg.Own.nil w).alloc rfl #[.float .f64 cI, .float .f64 cO, .float .f64 cX, .float .f64 cT, .slice Ap np cp] 26
    obtain ⟨c0, f0, z0, y0, -, zz⟩ := O.rules
    have HO := Lib.hid O; clear O
    refine (HM.out _ ((HP.out.below HO.out.below (Nat.le_refl _)).more HO.out.size)).mono ?_
    rintro en wn ⟨rfl, hbn⟩
    have O := HO.out.keep hbn
    clear HO c0 f0 z0 y0 zz
    obtain ⟨c0, f0, z0, y0, -, zz⟩ := O.rules
    have HO := Lib.hid O; clear O
    clear hbn
    go_wp2_with fail
    refine (HTB.out _ ((HA.out.below HO.out.below (Nat.le_refl _)).more HO.out.size) ((HB.out.below HO.out.below (Nat.le_refl _)).more HO.out.size) ((HP.out.below HO.out.below (Nat.le_refl _)).more HO.out.size) k1 HR.out).mono ?_
    rintro en wt ⟨Bk, R, rfl, hbt, g⟩
    have d1 := g.done n (by omega)
    obtain ⟨x, d2, hx⟩ := g.cell n m (by omega) (by omega)
    have HX := Lib.hid hx
    have hb2 := Lib.hid (HO.out.keep hbt)
    have hn1 : (n : Int) < (n : Int) + 1 := by omega
    have hm1 : (m : Int) < (m : Int) + 1 := by omega
    clear hbt g hx
    go_wp2_with fail
    go_ret2
    exact ⟨x, rfl, fun h => absurd rfl h, fun _ => HX.out, hb2.out.below⟩
  · have he' : (e == 0) = false := by simpa using he
    have he2 : (e != 0) = true := by simp [he]
    have HE := Lib.hid he
    clear he hok HTB
    go_enter Try.func13, Try.ntmps13
    go_wp2_with fail
    have O := (Reg.Own.nil w).alloc rfl #[.float .f64 cI, .float .f64 cO, .float .f64 cX, .float .f64 cT, .slice Ap np cp] 26
    obtain ⟨c0, f0, z0, y0, -, zz⟩ := O.rules
    have HO := Lib.hid O; clear O
    refine (HM.out _ ((HP.out.below HO.out.below (Nat.le_refl _)).more HO.out.size)).mono ?_
    rintro en wn ⟨rfl, hbn⟩
    have O := HO.out.keep hbn
    clear HO c0 f0 z0 y0 zz
    obtain ⟨c0, f0, z0, y0, -, zz⟩ := O.rules
    have HO := Lib.hid O; clear O
    clear hbn
    go_wp2_with fail
    go_ret2
    exact ⟨0, rfl, fun h => rfl, fun h => absurd h HE.out, HO.out.below⟩

end Go.Proofs.Ytkhdemaanakbeaa
