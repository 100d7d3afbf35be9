/- A name's distance from itself is 0, for all costs from 0 on: the law LikeItself returns true for every input of the bound. Condition: what is read is of bulk at most 1048576. -/
import Derived.Test.YtkhdemaanakbeaaLl
import Derived.Test.YtkhdemaanakbeaaUi
import Derived.Test.YtkhdemaanakbeaaBl
namespace Go.Proofs.Ytkhdemaanakbeaa
open Go.RowKit Go.Pst Go.ChangeShapes Go.WideShapes Go.ChangeAt Go.Joins Go.Deep
set_option maxRecDepth 100000
set_option linter.unusedSimpArgs false
set_option linter.unusedVariables false

def okK (p : Nat → Int × Int × Nat) (b : Bool) : Nat → Bool
  | 0 => b
  | k + 1 => okK p b k && g32 (p k).2.2

theorem okK_true {p : Nat → Int × Int × Nat} {b : Bool} : ∀ n, okK p b n = true → b = true ∧ ∀ i, i < n → g32 (p i).2.2 = true
  | 0, h => ⟨h, fun i hi => by omega⟩
  | n + 1, h => by
    rw [okK, Bool.and_eq_true] at h
    obtain ⟨h1, h2⟩ := okK_true n h.1
    refine ⟨h1, fun i hi => ?_⟩
    rcases Nat.lt_or_ge i n with hx | hx
    · exact h2 i hx
    · obtain rfl : i = n := by omega
      exact h.2




set_option maxHeartbeats 16000000 in
theorem likeItself_core (cI cO cX cT np cp n c : Nat) (Ap A : Option Addr) (p : Nat → Int × Int × Nat) (fa : Nat → Int) (e : Int) (T : Nat → Nat → Nat) (b1 b2 b3 b4 : Bool) (w : World) (hA : NameAt w w.heap.size A n fa) (hp : PairsAt w w.heap.size Ap np p)
    (hn : n ≤ 1048576) (hnp : np ≤ 1048576)
    (hD : ∀ w, NameAt w w.heap.size A n fa → PairsAt w w.heap.size Ap np p → Calls Try.prog 13 #[.agg #[.float .f64 cI, .float .f64 cO, .float .f64 cX, .float .f64 cT, .slice Ap np cp], .slice A n c, .slice A n c] w (DistPost T e n n w))
    (hG : ∀ w, PairsAt w w.heap.size Ap np p → Calls Try.prog 18 #[.agg #[.float .f64 cI, .float .f64 cO, .float .f64 cX, .float .f64 cT, .slice Ap np cp]] w (GivenPost cI cO cX cT np p w))
    (hW : ∀ A' c' w, PairsAt w w.heap.size A' np p → Calls Try.prog 17 #[.agg #[.float .f64 cI, .float .f64 cO, .float .f64 cX, .float .f64 cT, .slice A' np c'], .slice A n c, .slice A n c] w fun en w' => en = .returned (.int .i64 e) ∧ Below w.heap.size w w')
    (e1 : (fgt .f64 cI 0 || feq .f64 cI 0) = b1) (e2 : (fgt .f64 cO 0 || feq .f64 cO 0) = b2) (e3 : (fgt .f64 cX 0 || feq .f64 cX 0) = b3) (e4 : (fgt .f64 cT 0 || feq .f64 cT 0) = b4)
    (hz : okK p (b1 && b2 && b3 && b4) np = true → T n n = 0) :
    Calls Try.prog 4 #[.agg #[.float .f64 cI, .float .f64 cO, .float .f64 cX, .float .f64 cT, .slice Ap np cp], .slice A n c] w fun en w' => en = .returned (.bool true) ∧ Below w.heap.size w w' := by
  have HA := Lib.hid hA; have HP := Lib.hid hp; have HD := Lib.hid hD; have HG := Lib.hid hG; have HWR := Lib.hid hW; have HZ := Lib.hid hz
  clear hA hp hD hG hW hz
  cases b1
  · 
    go_enter Try.func4, Try.ntmps4
    go_wp2_with fail
    go_loopw [5, 6] (fun o t wr => ∃ k : Nat, t = .int .i64 k ∧ k ≤ np ∧ o = .bool (okK p (false && b2 && b3 && b4) k) ∧ Reg.Own w wr [(w.heap.size, #[.float .f64 cI, .float .f64 cO, .float .f64 cX, .float .f64 cT, .slice Ap np cp], 26)]) (fun _ t _ => np - (intOf t).toNat)
    case atStart => exact ⟨0, rfl, by omega, rfl, (Reg.Own.nil w).alloc rfl _ _⟩
    case round =>
      obtain ⟨k, rfl, hk, rfl, HO'⟩ := hrel
      have O := HO'
      obtain ⟨c0, f0, z0, y0, -, zz⟩ := O.rules
      have HO := Lib.hid O; clear O
      by_cases hkn : k < np
      · obtain ⟨g, off, rfl, hg, hcell⟩ := (HP.out.below HO.out.below (Nat.le_refl _)) (by omega)
        obtain ⟨-, -, q3⟩ := hcell k hkn
        have hg2 : g < wr.heap.size := by omega
        have hk1 : (k : Int) < (np : Int) := by omega
        clear hcell
        cases hok : okK p (false && b2 && b3 && b4) k
        · have HK := Lib.hid hok
          go_wp2_with fail
          go_roundw
          case rel => exact ⟨k + 1, by go_num, by omega, by rw [okK, HK.out]; rfl, HO.out⟩
          case measure => simp [intOf]; omega
        · have HK := Lib.hid hok
          cases hq : g32 (p k).2.2 <;>
          · have HQ := Lib.hid hq
            unfold g32 at hq
            go_wp2_with fail
            go_roundw
            case rel => exact ⟨k + 1, by go_num, by omega, by rw [okK, HK.out, HQ.out]; rfl, HO.out⟩
            case measure => simp [intOf]; omega
      · obtain rfl : k = np := by omega
        have hk1 : ¬ (k : Int) < (k : Int) := by omega
        cases hok : okK p (false && b2 && b3 && b4) k
        · clear HZ hok
          by_cases he : e = 0
          · subst he
            go_wp2_with fail
            refine (HD.out _ ((HA.out.below HO.out.below (Nat.le_refl _)).more HO.out.size) ((HP.out.below HO.out.below (Nat.le_refl _)).more HO.out.size)).mono ?_
            rintro en wn ⟨u, rfl, hu1, hu2, hbn⟩
            have HU := Lib.hid (And.intro hu1 hu2)
            clear hu1 hu2
            have O := HO.out.keep hbn
            clear HO c0 f0 z0 y0 zz
            obtain ⟨c0, f0, z0, y0, -, zz⟩ := O.rules
            have HO := Lib.hid O; clear O
            clear hbn
            go_wp2_with fail
            refine (HG.out _ ((HP.out.below HO.out.below (Nat.le_refl _)).more HO.out.size)).mono ?_
            rintro en wn ⟨A', c', rfl, hp', hbn⟩
            have HP' := Lib.hid hp'
            clear hp'
            have O := HO.out.keep hbn
            clear HO c0 f0 z0 y0 zz
            obtain ⟨c0, f0, z0, y0, -, zz⟩ := O.rules
            have HO := Lib.hid O; clear O
            clear hbn
            go_wp2_with fail
            refine (HWR.out _ _ _ HP'.out).mono ?_
            rintro en wn ⟨rfl, hbn⟩
            have O := HO.out.keep hbn
            clear HO c0 f0 z0 y0 zz
            obtain ⟨c0, f0, z0, y0, -, zz⟩ := O.rules
            have HO := Lib.hid O; clear O
            clear hbn
            go_wp2_with fail
            refine (awake_any _).mono ?_
            rintro en wn ⟨rfl, hbn⟩
            have O := HO.out.keep hbn
            clear HO c0 f0 z0 y0 zz
            obtain ⟨c0, f0, z0, y0, -, zz⟩ := O.rules
            have HO := Lib.hid O; clear O
            clear hbn
            go_wp2_with fail
            go_ret
            exact ⟨by simp, HO.out.below⟩
          · have hne1 : (e == 0) = false := by simpa using he
            have hne2 : (e != 0) = true := by simpa using he
            clear he
            go_wp2_with fail
            refine (HD.out _ ((HA.out.below HO.out.below (Nat.le_refl _)).more HO.out.size) ((HP.out.below HO.out.below (Nat.le_refl _)).more HO.out.size)).mono ?_
            rintro en wn ⟨u, rfl, hu1, hu2, hbn⟩
            have HU := Lib.hid (And.intro hu1 hu2)
            clear hu1 hu2
            have O := HO.out.keep hbn
            clear HO c0 f0 z0 y0 zz
            obtain ⟨c0, f0, z0, y0, -, zz⟩ := O.rules
            have HO := Lib.hid O; clear O
            clear hbn
            go_wp2_with fail
            refine (HG.out _ ((HP.out.below HO.out.below (Nat.le_refl _)).more HO.out.size)).mono ?_
            rintro en wn ⟨A', c', rfl, hp', hbn⟩
            have HP' := Lib.hid hp'
            clear hp'
            have O := HO.out.keep hbn
            clear HO c0 f0 z0 y0 zz
            obtain ⟨c0, f0, z0, y0, -, zz⟩ := O.rules
            have HO := Lib.hid O; clear O
            clear hbn
            go_wp2_with fail
            refine (HWR.out _ _ _ HP'.out).mono ?_
            rintro en wn ⟨rfl, hbn⟩
            have O := HO.out.keep hbn
            clear HO c0 f0 z0 y0 zz
            obtain ⟨c0, f0, z0, y0, -, zz⟩ := O.rules
            have HO := Lib.hid O; clear O
            clear hbn
            go_wp2_with fail
            refine (awake_any _).mono ?_
            rintro en wn ⟨rfl, hbn⟩
            have O := HO.out.keep hbn
            clear HO c0 f0 z0 y0 zz
            obtain ⟨c0, f0, z0, y0, -, zz⟩ := O.rules
            have HO := Lib.hid O; clear O
            clear hbn
            go_wp2_with fail
            go_ret
            exact ⟨by simp, HO.out.below⟩
        · have hz := HZ.out hok
          have HZ2 := Lib.hid hz
          clear hz hok HZ
          by_cases he : e = 0
          · subst he
            go_wp2_with fail
            refine (HD.out _ ((HA.out.below HO.out.below (Nat.le_refl _)).more HO.out.size) ((HP.out.below HO.out.below (Nat.le_refl _)).more HO.out.size)).mono ?_
            rintro en wn ⟨u, rfl, hu1, hu2, hbn⟩
            have HU := Lib.hid (And.intro hu1 hu2)
            clear hu1 hu2
            have O := HO.out.keep hbn
            clear HO c0 f0 z0 y0 zz
            obtain ⟨c0, f0, z0, y0, -, zz⟩ := O.rules
            have HO := Lib.hid O; clear O
            clear hbn
            go_wp2_with fail
            refine (HG.out _ ((HP.out.below HO.out.below (Nat.le_refl _)).more HO.out.size)).mono ?_
            rintro en wn ⟨A', c', rfl, hp', hbn⟩
            have HP' := Lib.hid hp'
            clear hp'
            have O := HO.out.keep hbn
            clear HO c0 f0 z0 y0 zz
            obtain ⟨c0, f0, z0, y0, -, zz⟩ := O.rules
            have HO := Lib.hid O; clear O
            clear hbn
            go_wp2_with fail
            refine (HWR.out _ _ _ HP'.out).mono ?_
            rintro en wn ⟨rfl, hbn⟩
            have O := HO.out.keep hbn
            clear HO c0 f0 z0 y0 zz
            obtain ⟨c0, f0, z0, y0, -, zz⟩ := O.rules
            have HO := Lib.hid O; clear O
            clear hbn
            go_wp2_with fail
            have hu : u = 0 := cn_eq ((HU.out.2 (by first | exact rfl | exact trivial)).trans HZ2.out) (by decide)
            subst hu
            have HS := Lib.hid fun w => lsame_any 0 0 w (fun _ => by omega) (fun _ => by omega) (.inl ⟨by omega, by omega⟩)
            refine (awake_any _).mono ?_
            rintro en wn ⟨rfl, hbn⟩
            have O := HO.out.keep hbn
            clear HO c0 f0 z0 y0 zz
            obtain ⟨c0, f0, z0, y0, -, zz⟩ := O.rules
            have HO := Lib.hid O; clear O
            clear hbn
            go_wp2_with fail
            refine (HS.out _).mono ?_
            rintro en wn ⟨rfl, rfl⟩
            go_wp2_with fail
            go_ret
            exact ⟨by simp, HO.out.below⟩
          · have hne1 : (e == 0) = false := by simpa using he
            have hne2 : (e != 0) = true := by simpa using he
            clear he
            go_wp2_with fail
            refine (HD.out _ ((HA.out.below HO.out.below (Nat.le_refl _)).more HO.out.size) ((HP.out.below HO.out.below (Nat.le_refl _)).more HO.out.size)).mono ?_
            rintro en wn ⟨u, rfl, hu1, hu2, hbn⟩
            have HU := Lib.hid (And.intro hu1 hu2)
            clear hu1 hu2
            have O := HO.out.keep hbn
            clear HO c0 f0 z0 y0 zz
            obtain ⟨c0, f0, z0, y0, -, zz⟩ := O.rules
            have HO := Lib.hid O; clear O
            clear hbn
            go_wp2_with fail
            refine (HG.out _ ((HP.out.below HO.out.below (Nat.le_refl _)).more HO.out.size)).mono ?_
            rintro en wn ⟨A', c', rfl, hp', hbn⟩
            have HP' := Lib.hid hp'
            clear hp'
            have O := HO.out.keep hbn
            clear HO c0 f0 z0 y0 zz
            obtain ⟨c0, f0, z0, y0, -, zz⟩ := O.rules
            have HO := Lib.hid O; clear O
            clear hbn
            go_wp2_with fail
            refine (HWR.out _ _ _ HP'.out).mono ?_
            rintro en wn ⟨rfl, hbn⟩
            have O := HO.out.keep hbn
            clear HO c0 f0 z0 y0 zz
            obtain ⟨c0, f0, z0, y0, -, zz⟩ := O.rules
            have HO := Lib.hid O; clear O
            clear hbn
            go_wp2_with fail
            refine (awake_any _).mono ?_
            rintro en wn ⟨rfl, hbn⟩
            have O := HO.out.keep hbn
            clear HO c0 f0 z0 y0 zz
            obtain ⟨c0, f0, z0, y0, -, zz⟩ := O.rules
            have HO := Lib.hid O; clear O
            clear hbn
            go_wp2_with fail
            go_ret
            exact ⟨by simp, HO.out.below⟩
  cases b2
  · 
    go_enter Try.func4, Try.ntmps4
    go_wp2_with fail
    go_loopw [5, 6] (fun o t wr => ∃ k : Nat, t = .int .i64 k ∧ k ≤ np ∧ o = .bool (okK p (true && false && b3 && b4) k) ∧ Reg.Own w wr [(w.heap.size, #[.float .f64 cI, .float .f64 cO, .float .f64 cX, .float .f64 cT, .slice Ap np cp], 26)]) (fun _ t _ => np - (intOf t).toNat)
    case atStart => exact ⟨0, rfl, by omega, rfl, (Reg.Own.nil w).alloc rfl _ _⟩
    case round =>
      obtain ⟨k, rfl, hk, rfl, HO'⟩ := hrel
      have O := HO'
      obtain ⟨c0, f0, z0, y0, -, zz⟩ := O.rules
      have HO := Lib.hid O; clear O
      by_cases hkn : k < np
      · obtain ⟨g, off, rfl, hg, hcell⟩ := (HP.out.below HO.out.below (Nat.le_refl _)) (by omega)
        obtain ⟨-, -, q3⟩ := hcell k hkn
        have hg2 : g < wr.heap.size := by omega
        have hk1 : (k : Int) < (np : Int) := by omega
        clear hcell
        cases hok : okK p (true && false && b3 && b4) k
        · have HK := Lib.hid hok
          go_wp2_with fail
          go_roundw
          case rel => exact ⟨k + 1, by go_num, by omega, by rw [okK, HK.out]; rfl, HO.out⟩
          case measure => simp [intOf]; omega
        · have HK := Lib.hid hok
          cases hq : g32 (p k).2.2 <;>
          · have HQ := Lib.hid hq
            unfold g32 at hq
            go_wp2_with fail
            go_roundw
            case rel => exact ⟨k + 1, by go_num, by omega, by rw [okK, HK.out, HQ.out]; rfl, HO.out⟩
            case measure => simp [intOf]; omega
      · obtain rfl : k = np := by omega
        have hk1 : ¬ (k : Int) < (k : Int) := by omega
        cases hok : okK p (true && false && b3 && b4) k
        · clear HZ hok
          by_cases he : e = 0
          · subst he
            go_wp2_with fail
            refine (HD.out _ ((HA.out.below HO.out.below (Nat.le_refl _)).more HO.out.size) ((HP.out.below HO.out.below (Nat.le_refl _)).more HO.out.size)).mono ?_
            rintro en wn ⟨u, rfl, hu1, hu2, hbn⟩
            have HU := Lib.hid (And.intro hu1 hu2)
            clear hu1 hu2
            have O := HO.out.keep hbn
            clear HO c0 f0 z0 y0 zz
            obtain ⟨c0, f0, z0, y0, -, zz⟩ := O.rules
            have HO := Lib.hid O; clear O
            clear hbn
            go_wp2_with fail
            refine (HG.out _ ((HP.out.below HO.out.below (Nat.le_refl _)).more HO.out.size)).mono ?_
            rintro en wn ⟨A', c', rfl, hp', hbn⟩
            have HP' := Lib.hid hp'
            clear hp'
            have O := HO.out.keep hbn
            clear HO c0 f0 z0 y0 zz
            obtain ⟨c0, f0, z0, y0, -, zz⟩ := O.rules
            have HO := Lib.hid O; clear O
            clear hbn
            go_wp2_with fail
            refine (HWR.out _ _ _ HP'.out).mono ?_
            rintro en wn ⟨rfl, hbn⟩
            have O := HO.out.keep hbn
            clear HO c0 f0 z0 y0 zz
            obtain ⟨c0, f0, z0, y0, -, zz⟩ := O.rules
            have HO := Lib.hid O; clear O
            clear hbn
            go_wp2_with fail
            refine (awake_any _).mono ?_
            rintro en wn ⟨rfl, hbn⟩
            have O := HO.out.keep hbn
            clear HO c0 f0 z0 y0 zz
            obtain ⟨c0, f0, z0, y0, -, zz⟩ := O.rules
            have HO := Lib.hid O; clear O
            clear hbn
            go_wp2_with fail
            go_ret
            exact ⟨by simp, HO.out.below⟩
          · have hne1 : (e == 0) = false := by simpa using he
            have hne2 : (e != 0) = true := by simpa using he
            clear he
            go_wp2_with fail
            refine (HD.out _ ((HA.out.below HO.out.below (Nat.le_refl _)).more HO.out.size) ((HP.out.below HO.out.below (Nat.le_refl _)).more HO.out.size)).mono ?_
            rintro en wn ⟨u, rfl, hu1, hu2, hbn⟩
            have HU := Lib.hid (And.intro hu1 hu2)
            clear hu1 hu2
            have O := HO.out.keep hbn
            clear HO c0 f0 z0 y0 zz
            obtain ⟨c0, f0, z0, y0, -, zz⟩ := O.rules
            have HO := Lib.hid O; clear O
            clear hbn
            go_wp2_with fail
            refine (HG.out _ ((HP.out.below HO.out.below (Nat.le_refl _)).more HO.out.size)).mono ?_
            rintro en wn ⟨A', c', rfl, hp', hbn⟩
            have HP' := Lib.hid hp'
            clear hp'
            have O := HO.out.keep hbn
            clear HO c0 f0 z0 y0 zz
            obtain ⟨c0, f0, z0, y0, -, zz⟩ := O.rules
            have HO := Lib.hid O; clear O
            clear hbn
            go_wp2_with fail
            refine (HWR.out _ _ _ HP'.out).mono ?_
            rintro en wn ⟨rfl, hbn⟩
            have O := HO.out.keep hbn
            clear HO c0 f0 z0 y0 zz
            obtain ⟨c0, f0, z0, y0, -, zz⟩ := O.rules
            have HO := Lib.hid O; clear O
            clear hbn
            go_wp2_with fail
            refine (awake_any _).mono ?_
            rintro en wn ⟨rfl, hbn⟩
            have O := HO.out.keep hbn
            clear HO c0 f0 z0 y0 zz
            obtain ⟨c0, f0, z0, y0, -, zz⟩ := O.rules
            have HO := Lib.hid O; clear O
            clear hbn
            go_wp2_with fail
            go_ret
            exact ⟨by simp, HO.out.below⟩
        · have hz := HZ.out hok
          have HZ2 := Lib.hid hz
          clear hz hok HZ
          by_cases he : e = 0
          · subst he
            go_wp2_with fail
            refine (HD.out _ ((HA.out.below HO.out.below (Nat.le_refl _)).more HO.out.size) ((HP.out.below HO.out.below (Nat.le_refl _)).more HO.out.size)).mono ?_
            rintro en wn ⟨u, rfl, hu1, hu2, hbn⟩
            have HU := Lib.hid (And.intro hu1 hu2)
            clear hu1 hu2
            have O := HO.out.keep hbn
            clear HO c0 f0 z0 y0 zz
            obtain ⟨c0, f0, z0, y0, -, zz⟩ := O.rules
            have HO := Lib.hid O; clear O
            clear hbn
            go_wp2_with fail
            refine (HG.out _ ((HP.out.below HO.out.below (Nat.le_refl _)).more HO.out.size)).mono ?_
            rintro en wn ⟨A', c', rfl, hp', hbn⟩
            have HP' := Lib.hid hp'
            clear hp'
            have O := HO.out.keep hbn
            clear HO c0 f0 z0 y0 zz
            obtain ⟨c0, f0, z0, y0, -, zz⟩ := O.rules
            have HO := Lib.hid O; clear O
            clear hbn
            go_wp2_with fail
            refine (HWR.out _ _ _ HP'.out).mono ?_
            rintro en wn ⟨rfl, hbn⟩
            have O := HO.out.keep hbn
            clear HO c0 f0 z0 y0 zz
            obtain ⟨c0, f0, z0, y0, -, zz⟩ := O.rules
            have HO := Lib.hid O; clear O
            clear hbn
            go_wp2_with fail
            have hu : u = 0 := cn_eq ((HU.out.2 (by first | exact rfl | exact trivial)).trans HZ2.out) (by decide)
            subst hu
            have HS := Lib.hid fun w => lsame_any 0 0 w (fun _ => by omega) (fun _ => by omega) (.inl ⟨by omega, by omega⟩)
            refine (awake_any _).mono ?_
            rintro en wn ⟨rfl, hbn⟩
            have O := HO.out.keep hbn
            clear HO c0 f0 z0 y0 zz
            obtain ⟨c0, f0, z0, y0, -, zz⟩ := O.rules
            have HO := Lib.hid O; clear O
            clear hbn
            go_wp2_with fail
            refine (HS.out _).mono ?_
            rintro en wn ⟨rfl, rfl⟩
            go_wp2_with fail
            go_ret
            exact ⟨by simp, HO.out.below⟩
          · have hne1 : (e == 0) = false := by simpa using he
            have hne2 : (e != 0) = true := by simpa using he
            clear he
            go_wp2_with fail
            refine (HD.out _ ((HA.out.below HO.out.below (Nat.le_refl _)).more HO.out.size) ((HP.out.below HO.out.below (Nat.le_refl _)).more HO.out.size)).mono ?_
            rintro en wn ⟨u, rfl, hu1, hu2, hbn⟩
            have HU := Lib.hid (And.intro hu1 hu2)
            clear hu1 hu2
            have O := HO.out.keep hbn
            clear HO c0 f0 z0 y0 zz
            obtain ⟨c0, f0, z0, y0, -, zz⟩ := O.rules
            have HO := Lib.hid O; clear O
            clear hbn
            go_wp2_with fail
            refine (HG.out _ ((HP.out.below HO.out.below (Nat.le_refl _)).more HO.out.size)).mono ?_
            rintro en wn ⟨A', c', rfl, hp', hbn⟩
            have HP' := Lib.hid hp'
            clear hp'
            have O := HO.out.keep hbn
            clear HO c0 f0 z0 y0 zz
            obtain ⟨c0, f0, z0, y0, -, zz⟩ := O.rules
            have HO := Lib.hid O; clear O
            clear hbn
            go_wp2_with fail
            refine (HWR.out _ _ _ HP'.out).mono ?_
            rintro en wn ⟨rfl, hbn⟩
            have O := HO.out.keep hbn
            clear HO c0 f0 z0 y0 zz
            obtain ⟨c0, f0, z0, y0, -, zz⟩ := O.rules
            have HO := Lib.hid O; clear O
            clear hbn
            go_wp2_with fail
            refine (awake_any _).mono ?_
            rintro en wn ⟨rfl, hbn⟩
            have O := HO.out.keep hbn
            clear HO c0 f0 z0 y0 zz
            obtain ⟨c0, f0, z0, y0, -, zz⟩ := O.rules
            have HO := Lib.hid O; clear O
            clear hbn
            go_wp2_with fail
            go_ret
            exact ⟨by simp, HO.out.below⟩
  cases b3
  · 
    go_enter Try.func4, Try.ntmps4
    go_wp2_with fail
    go_loopw [5, 6] (fun o t wr => ∃ k : Nat, t = .int .i64 k ∧ k ≤ np ∧ o = .bool (okK p (true && true && false && b4) k) ∧ Reg.Own w wr [(w.heap.size, #[.float .f64 cI, .float .f64 cO, .float .f64 cX, .float .f64 cT, .slice Ap np cp], 26)]) (fun _ t _ => np - (intOf t).toNat)
    case atStart => exact ⟨0, rfl, by omega, rfl, (Reg.Own.nil w).alloc rfl _ _⟩
    case round =>
      obtain ⟨k, rfl, hk, rfl, HO'⟩ := hrel
      have O := HO'
      obtain ⟨c0, f0, z0, y0, -, zz⟩ := O.rules
      have HO := Lib.hid O; clear O
      by_cases hkn : k < np
      · obtain ⟨g, off, rfl, hg, hcell⟩ := (HP.out.below HO.out.below (Nat.le_refl _)) (by omega)
        obtain ⟨-, -, q3⟩ := hcell k hkn
        have hg2 : g < wr.heap.size := by omega
        have hk1 : (k : Int) < (np : Int) := by omega
        clear hcell
        cases hok : okK p (true && true && false && b4) k
        · have HK := Lib.hid hok
          go_wp2_with fail
          go_roundw
          case rel => exact ⟨k + 1, by go_num, by omega, by rw [okK, HK.out]; rfl, HO.out⟩
          case measure => simp [intOf]; omega
        · have HK := Lib.hid hok
          cases hq : g32 (p k).2.2 <;>
          · have HQ := Lib.hid hq
            unfold g32 at hq
            go_wp2_with fail
            go_roundw
            case rel => exact ⟨k + 1, by go_num, by omega, by rw [okK, HK.out, HQ.out]; rfl, HO.out⟩
            case measure => simp [intOf]; omega
      · obtain rfl : k = np := by omega
        have hk1 : ¬ (k : Int) < (k : Int) := by omega
        cases hok : okK p (true && true && false && b4) k
        · clear HZ hok
          by_cases he : e = 0
          · subst he
            go_wp2_with fail
            refine (HD.out _ ((HA.out.below HO.out.below (Nat.le_refl _)).more HO.out.size) ((HP.out.below HO.out.below (Nat.le_refl _)).more HO.out.size)).mono ?_
            rintro en wn ⟨u, rfl, hu1, hu2, hbn⟩
            have HU := Lib.hid (And.intro hu1 hu2)
            clear hu1 hu2
            have O := HO.out.keep hbn
            clear HO c0 f0 z0 y0 zz
            obtain ⟨c0, f0, z0, y0, -, zz⟩ := O.rules
            have HO := Lib.hid O; clear O
            clear hbn
            go_wp2_with fail
            refine (HG.out _ ((HP.out.below HO.out.below (Nat.le_refl _)).more HO.out.size)).mono ?_
            rintro en wn ⟨A', c', rfl, hp', hbn⟩
            have HP' := Lib.hid hp'
            clear hp'
            have O := HO.out.keep hbn
            clear HO c0 f0 z0 y0 zz
            obtain ⟨c0, f0, z0, y0, -, zz⟩ := O.rules
            have HO := Lib.hid O; clear O
            clear hbn
            go_wp2_with fail
            refine (HWR.out _ _ _ HP'.out).mono ?_
            rintro en wn ⟨rfl, hbn⟩
            have O := HO.out.keep hbn
            clear HO c0 f0 z0 y0 zz
            obtain ⟨c0, f0, z0, y0, -, zz⟩ := O.rules
            have HO := Lib.hid O; clear O
            clear hbn
            go_wp2_with fail
            refine (awake_any _).mono ?_
            rintro en wn ⟨rfl, hbn⟩
            have O := HO.out.keep hbn
            clear HO c0 f0 z0 y0 zz
            obtain ⟨c0, f0, z0, y0, -, zz⟩ := O.rules
            have HO := Lib.hid O; clear O
            clear hbn
            go_wp2_with fail
            go_ret
            exact ⟨by simp, HO.out.below⟩
          · have hne1 : (e == 0) = false := by simpa using he
            have hne2 : (e != 0) = true := by simpa using he
            clear he
            go_wp2_with fail
            refine (HD.out _ ((HA.out.below HO.out.below (Nat.le_refl _)).more HO.out.size) ((HP.out.below HO.out.below (Nat.le_refl _)).more HO.out.size)).mono ?_
            rintro en wn ⟨u, rfl, hu1, hu2, hbn⟩
            have HU := Lib.hid (And.intro hu1 hu2)
            clear hu1 hu2
            have O := HO.out.keep hbn
            clear HO c0 f0 z0 y0 zz
            obtain ⟨c0, f0, z0, y0, -, zz⟩ := O.rules
            have HO := Lib.hid O; clear O
            clear hbn
            go_wp2_with fail
            refine (HG.out _ ((HP.out.below HO.out.below (Nat.le_refl _)).more HO.out.size)).mono ?_
            rintro en wn ⟨A', c', rfl, hp', hbn⟩
            have HP' := Lib.hid hp'
            clear hp'
            have O := HO.out.keep hbn
            clear HO c0 f0 z0 y0 zz
            obtain ⟨c0, f0, z0, y0, -, zz⟩ := O.rules
            have HO := Lib.hid O; clear O
            clear hbn
            go_wp2_with fail
            refine (HWR.out _ _ _ HP'.out).mono ?_
            rintro en wn ⟨rfl, hbn⟩
            have O := HO.out.keep hbn
            clear HO c0 f0 z0 y0 zz
            obtain ⟨c0, f0, z0, y0, -, zz⟩ := O.rules
            have HO := Lib.hid O; clear O
            clear hbn
            go_wp2_with fail
            refine (awake_any _).mono ?_
            rintro en wn ⟨rfl, hbn⟩
            have O := HO.out.keep hbn
            clear HO c0 f0 z0 y0 zz
            obtain ⟨c0, f0, z0, y0, -, zz⟩ := O.rules
            have HO := Lib.hid O; clear O
            clear hbn
            go_wp2_with fail
            go_ret
            exact ⟨by simp, HO.out.below⟩
        · have hz := HZ.out hok
          have HZ2 := Lib.hid hz
          clear hz hok HZ
          by_cases he : e = 0
          · subst he
            go_wp2_with fail
            refine (HD.out _ ((HA.out.below HO.out.below (Nat.le_refl _)).more HO.out.size) ((HP.out.below HO.out.below (Nat.le_refl _)).more HO.out.size)).mono ?_
            rintro en wn ⟨u, rfl, hu1, hu2, hbn⟩
            have HU := Lib.hid (And.intro hu1 hu2)
            clear hu1 hu2
            have O := HO.out.keep hbn
            clear HO c0 f0 z0 y0 zz
            obtain ⟨c0, f0, z0, y0, -, zz⟩ := O.rules
            have HO := Lib.hid O; clear O
            clear hbn
            go_wp2_with fail
            refine (HG.out _ ((HP.out.below HO.out.below (Nat.le_refl _)).more HO.out.size)).mono ?_
            rintro en wn ⟨A', c', rfl, hp', hbn⟩
            have HP' := Lib.hid hp'
            clear hp'
            have O := HO.out.keep hbn
            clear HO c0 f0 z0 y0 zz
            obtain ⟨c0, f0, z0, y0, -, zz⟩ := O.rules
            have HO := Lib.hid O; clear O
            clear hbn
            go_wp2_with fail
            refine (HWR.out _ _ _ HP'.out).mono ?_
            rintro en wn ⟨rfl, hbn⟩
            have O := HO.out.keep hbn
            clear HO c0 f0 z0 y0 zz
            obtain ⟨c0, f0, z0, y0, -, zz⟩ := O.rules
            have HO := Lib.hid O; clear O
            clear hbn
            go_wp2_with fail
            have hu : u = 0 := cn_eq ((HU.out.2 (by first | exact rfl | exact trivial)).trans HZ2.out) (by decide)
            subst hu
            have HS := Lib.hid fun w => lsame_any 0 0 w (fun _ => by omega) (fun _ => by omega) (.inl ⟨by omega, by omega⟩)
            refine (awake_any _).mono ?_
            rintro en wn ⟨rfl, hbn⟩
            have O := HO.out.keep hbn
            clear HO c0 f0 z0 y0 zz
            obtain ⟨c0, f0, z0, y0, -, zz⟩ := O.rules
            have HO := Lib.hid O; clear O
            clear hbn
            go_wp2_with fail
            refine (HS.out _).mono ?_
            rintro en wn ⟨rfl, rfl⟩
            go_wp2_with fail
            go_ret
            exact ⟨by simp, HO.out.below⟩
          · have hne1 : (e == 0) = false := by simpa using he
            have hne2 : (e != 0) = true := by simpa using he
            clear he
            go_wp2_with fail
            refine (HD.out _ ((HA.out.below HO.out.below (Nat.le_refl _)).more HO.out.size) ((HP.out.below HO.out.below (Nat.le_refl _)).more HO.out.size)).mono ?_
            rintro en wn ⟨u, rfl, hu1, hu2, hbn⟩
            have HU := Lib.hid (And.intro hu1 hu2)
            clear hu1 hu2
            have O := HO.out.keep hbn
            clear HO c0 f0 z0 y0 zz
            obtain ⟨c0, f0, z0, y0, -, zz⟩ := O.rules
            have HO := Lib.hid O; clear O
            clear hbn
            go_wp2_with fail
            refine (HG.out _ ((HP.out.below HO.out.below (Nat.le_refl _)).more HO.out.size)).mono ?_
            rintro en wn ⟨A', c', rfl, hp', hbn⟩
            have HP' := Lib.hid hp'
            clear hp'
            have O := HO.out.keep hbn
            clear HO c0 f0 z0 y0 zz
            obtain ⟨c0, f0, z0, y0, -, zz⟩ := O.rules
            have HO := Lib.hid O; clear O
            clear hbn
            go_wp2_with fail
            refine (HWR.out _ _ _ HP'.out).mono ?_
            rintro en wn ⟨rfl, hbn⟩
            have O := HO.out.keep hbn
            clear HO c0 f0 z0 y0 zz
            obtain ⟨c0, f0, z0, y0, -, zz⟩ := O.rules
            have HO := Lib.hid O; clear O
            clear hbn
            go_wp2_with fail
            refine (awake_any _).mono ?_
            rintro en wn ⟨rfl, hbn⟩
            have O := HO.out.keep hbn
            clear HO c0 f0 z0 y0 zz
            obtain ⟨c0, f0, z0, y0, -, zz⟩ := O.rules
            have HO := Lib.hid O; clear O
            clear hbn
            go_wp2_with fail
            go_ret
            exact ⟨by simp, HO.out.below⟩
  cases b4
  · 
    go_enter Try.func4, Try.ntmps4
    go_wp2_with fail
    go_loopw [5, 6] (fun o t wr => ∃ k : Nat, t = .int .i64 k ∧ k ≤ np ∧ o = .bool (okK p (true && true && true && false) k) ∧ Reg.Own w wr [(w.heap.size, #[.float .f64 cI, .float .f64 cO, .float .f64 cX, .float .f64 cT, .slice Ap np cp], 26)]) (fun _ t _ => np - (intOf t).toNat)
    case atStart => exact ⟨0, rfl, by omega, rfl, (Reg.Own.nil w).alloc rfl _ _⟩
    case round =>
      obtain ⟨k, rfl, hk, rfl, HO'⟩ := hrel
      have O := HO'
      obtain ⟨c0, f0, z0, y0, -, zz⟩ := O.rules
      have HO := Lib.hid O; clear O
      by_cases hkn : k < np
      · obtain ⟨g, off, rfl, hg, hcell⟩ := (HP.out.below HO.out.below (Nat.le_refl _)) (by omega)
        obtain ⟨-, -, q3⟩ := hcell k hkn
        have hg2 : g < wr.heap.size := by omega
        have hk1 : (k : Int) < (np : Int) := by omega
        clear hcell
        cases hok : okK p (true && true && true && false) k
        · have HK := Lib.hid hok
          go_wp2_with fail
          go_roundw
          case rel => exact ⟨k + 1, by go_num, by omega, by rw [okK, HK.out]; rfl, HO.out⟩
          case measure => simp [intOf]; omega
        · have HK := Lib.hid hok
          cases hq : g32 (p k).2.2 <;>
          · have HQ := Lib.hid hq
            unfold g32 at hq
            go_wp2_with fail
            go_roundw
            case rel => exact ⟨k + 1, by go_num, by omega, by rw [okK, HK.out, HQ.out]; rfl, HO.out⟩
            case measure => simp [intOf]; omega
      · obtain rfl : k = np := by omega
        have hk1 : ¬ (k : Int) < (k : Int) := by omega
        cases hok : okK p (true && true && true && false) k
        · clear HZ hok
          by_cases he : e = 0
          · subst he
            go_wp2_with fail
            refine (HD.out _ ((HA.out.below HO.out.below (Nat.le_refl _)).more HO.out.size) ((HP.out.below HO.out.below (Nat.le_refl _)).more HO.out.size)).mono ?_
            rintro en wn ⟨u, rfl, hu1, hu2, hbn⟩
            have HU := Lib.hid (And.intro hu1 hu2)
            clear hu1 hu2
            have O := HO.out.keep hbn
            clear HO c0 f0 z0 y0 zz
            obtain ⟨c0, f0, z0, y0, -, zz⟩ := O.rules
            have HO := Lib.hid O; clear O
            clear hbn
            go_wp2_with fail
            refine (HG.out _ ((HP.out.below HO.out.below (Nat.le_refl _)).more HO.out.size)).mono ?_
            rintro en wn ⟨A', c', rfl, hp', hbn⟩
            have HP' := Lib.hid hp'
            clear hp'
            have O := HO.out.keep hbn
            clear HO c0 f0 z0 y0 zz
            obtain ⟨c0, f0, z0, y0, -, zz⟩ := O.rules
            have HO := Lib.hid O; clear O
            clear hbn
            go_wp2_with fail
            refine (HWR.out _ _ _ HP'.out).mono ?_
            rintro en wn ⟨rfl, hbn⟩
            have O := HO.out.keep hbn
            clear HO c0 f0 z0 y0 zz
            obtain ⟨c0, f0, z0, y0, -, zz⟩ := O.rules
            have HO := Lib.hid O; clear O
            clear hbn
            go_wp2_with fail
            refine (awake_any _).mono ?_
            rintro en wn ⟨rfl, hbn⟩
            have O := HO.out.keep hbn
            clear HO c0 f0 z0 y0 zz
            obtain ⟨c0, f0, z0, y0, -, zz⟩ := O.rules
            have HO := Lib.hid O; clear O
            clear hbn
            go_wp2_with fail
            go_ret
            exact ⟨by simp, HO.out.below⟩
          · have hne1 : (e == 0) = false := by simpa using he
            have hne2 : (e != 0) = true := by simpa using he
            clear he
            go_wp2_with fail
            refine (HD.out _ ((HA.out.below HO.out.below (Nat.le_refl _)).more HO.out.size) ((HP.out.below HO.out.below (Nat.le_refl _)).more HO.out.size)).mono ?_
            rintro en wn ⟨u, rfl, hu1, hu2, hbn⟩
            have HU := Lib.hid (And.intro hu1 hu2)
            clear hu1 hu2
            have O := HO.out.keep hbn
            clear HO c0 f0 z0 y0 zz
            obtain ⟨c0, f0, z0, y0, -, zz⟩ := O.rules
            have HO := Lib.hid O; clear O
            clear hbn
            go_wp2_with fail
            refine (HG.out _ ((HP.out.below HO.out.below (Nat.le_refl _)).more HO.out.size)).mono ?_
            rintro en wn ⟨A', c', rfl, hp', hbn⟩
            have HP' := Lib.hid hp'
            clear hp'
            have O := HO.out.keep hbn
            clear HO c0 f0 z0 y0 zz
            obtain ⟨c0, f0, z0, y0, -, zz⟩ := O.rules
            have HO := Lib.hid O; clear O
            clear hbn
            go_wp2_with fail
            refine (HWR.out _ _ _ HP'.out).mono ?_
            rintro en wn ⟨rfl, hbn⟩
            have O := HO.out.keep hbn
            clear HO c0 f0 z0 y0 zz
            obtain ⟨c0, f0, z0, y0, -, zz⟩ := O.rules
            have HO := Lib.hid O; clear O
            clear hbn
            go_wp2_with fail
            refine (awake_any _).mono ?_
            rintro en wn ⟨rfl, hbn⟩
            have O := HO.out.keep hbn
            clear HO c0 f0 z0 y0 zz
            obtain ⟨c0, f0, z0, y0, -, zz⟩ := O.rules
            have HO := Lib.hid O; clear O
            clear hbn
            go_wp2_with fail
            go_ret
            exact ⟨by simp, HO.out.below⟩
        · have hz := HZ.out hok
          have HZ2 := Lib.hid hz
          clear hz hok HZ
          by_cases he : e = 0
          · subst he
            go_wp2_with fail
            refine (HD.out _ ((HA.out.below HO.out.below (Nat.le_refl _)).more HO.out.size) ((HP.out.below HO.out.below (Nat.le_refl _)).more HO.out.size)).mono ?_
            rintro en wn ⟨u, rfl, hu1, hu2, hbn⟩
            have HU := Lib.hid (And.intro hu1 hu2)
            clear hu1 hu2
            have O := HO.out.keep hbn
            clear HO c0 f0 z0 y0 zz
            obtain ⟨c0, f0, z0, y0, -, zz⟩ := O.rules
            have HO := Lib.hid O; clear O
            clear hbn
            go_wp2_with fail
            refine (HG.out _ ((HP.out.below HO.out.below (Nat.le_refl _)).more HO.out.size)).mono ?_
            rintro en wn ⟨A', c', rfl, hp', hbn⟩
            have HP' := Lib.hid hp'
            clear hp'
            have O := HO.out.keep hbn
            clear HO c0 f0 z0 y0 zz
            obtain ⟨c0, f0, z0, y0, -, zz⟩ := O.rules
            have HO := Lib.hid O; clear O
            clear hbn
            go_wp2_with fail
            refine (HWR.out _ _ _ HP'.out).mono ?_
            rintro en wn ⟨rfl, hbn⟩
            have O := HO.out.keep hbn
            clear HO c0 f0 z0 y0 zz
            obtain ⟨c0, f0, z0, y0, -, zz⟩ := O.rules
            have HO := Lib.hid O; clear O
            clear hbn
            go_wp2_with fail
            have hu : u = 0 := cn_eq ((HU.out.2 (by first | exact rfl | exact trivial)).trans HZ2.out) (by decide)
            subst hu
            have HS := Lib.hid fun w => lsame_any 0 0 w (fun _ => by omega) (fun _ => by omega) (.inl ⟨by omega, by omega⟩)
            refine (awake_any _).mono ?_
            rintro en wn ⟨rfl, hbn⟩
            have O := HO.out.keep hbn
            clear HO c0 f0 z0 y0 zz
            obtain ⟨c0, f0, z0, y0, -, zz⟩ := O.rules
            have HO := Lib.hid O; clear O
            clear hbn
            go_wp2_with fail
            refine (HS.out _).mono ?_
            rintro en wn ⟨rfl, rfl⟩
            go_wp2_with fail
            go_ret
            exact ⟨by simp, HO.out.below⟩
          · have hne1 : (e == 0) = false := by simpa using he
            have hne2 : (e != 0) = true := by simpa using he
            clear he
            go_wp2_with fail
            refine (HD.out _ ((HA.out.below HO.out.below (Nat.le_refl _)).more HO.out.size) ((HP.out.below HO.out.below (Nat.le_refl _)).more HO.out.size)).mono ?_
            rintro en wn ⟨u, rfl, hu1, hu2, hbn⟩
            have HU := Lib.hid (And.intro hu1 hu2)
            clear hu1 hu2
            have O := HO.out.keep hbn
            clear HO c0 f0 z0 y0 zz
            obtain ⟨c0, f0, z0, y0, -, zz⟩ := O.rules
            have HO := Lib.hid O; clear O
            clear hbn
            go_wp2_with fail
            refine (HG.out _ ((HP.out.below HO.out.below (Nat.le_refl _)).more HO.out.size)).mono ?_
            rintro en wn ⟨A', c', rfl, hp', hbn⟩
            have HP' := Lib.hid hp'
            clear hp'
            have O := HO.out.keep hbn
            clear HO c0 f0 z0 y0 zz
            obtain ⟨c0, f0, z0, y0, -, zz⟩ := O.rules
            have HO := Lib.hid O; clear O
            clear hbn
            go_wp2_with fail
            refine (HWR.out _ _ _ HP'.out).mono ?_
            rintro en wn ⟨rfl, hbn⟩
            have O := HO.out.keep hbn
            clear HO c0 f0 z0 y0 zz
            obtain ⟨c0, f0, z0, y0, -, zz⟩ := O.rules
            have HO := Lib.hid O; clear O
            clear hbn
            go_wp2_with fail
            refine (awake_any _).mono ?_
            rintro en wn ⟨rfl, hbn⟩
            have O := HO.out.keep hbn
            clear HO c0 f0 z0 y0 zz
            obtain ⟨c0, f0, z0, y0, -, zz⟩ := O.rules
            have HO := Lib.hid O; clear O
            clear hbn
            go_wp2_with fail
            go_ret
            exact ⟨by simp, HO.out.below⟩
  · 
    go_enter Try.func4, Try.ntmps4
    go_wp2_with fail
    go_loopw [5, 6] (fun o t wr => ∃ k : Nat, t = .int .i64 k ∧ k ≤ np ∧ o = .bool (okK p (true && true && true && true) k) ∧ Reg.Own w wr [(w.heap.size, #[.float .f64 cI, .float .f64 cO, .float .f64 cX, .float .f64 cT, .slice Ap np cp], 26)]) (fun _ t _ => np - (intOf t).toNat)
    case atStart => exact ⟨0, rfl, by omega, rfl, (Reg.Own.nil w).alloc rfl _ _⟩
    case round =>
      obtain ⟨k, rfl, hk, rfl, HO'⟩ := hrel
      have O := HO'
      obtain ⟨c0, f0, z0, y0, -, zz⟩ := O.rules
      have HO := Lib.hid O; clear O
      by_cases hkn : k < np
      · obtain ⟨g, off, rfl, hg, hcell⟩ := (HP.out.below HO.out.below (Nat.le_refl _)) (by omega)
        obtain ⟨-, -, q3⟩ := hcell k hkn
        have hg2 : g < wr.heap.size := by omega
        have hk1 : (k : Int) < (np : Int) := by omega
        clear hcell
        cases hok : okK p (true && true && true && true) k
        · have HK := Lib.hid hok
          go_wp2_with fail
          go_roundw
          case rel => exact ⟨k + 1, by go_num, by omega, by rw [okK, HK.out]; rfl, HO.out⟩
          case measure => simp [intOf]; omega
        · have HK := Lib.hid hok
          cases hq : g32 (p k).2.2 <;>
          · have HQ := Lib.hid hq
            unfold g32 at hq
            go_wp2_with fail
            go_roundw
            case rel => exact ⟨k + 1, by go_num, by omega, by rw [okK, HK.out, HQ.out]; rfl, HO.out⟩
            case measure => simp [intOf]; omega
      · obtain rfl : k = np := by omega
        have hk1 : ¬ (k : Int) < (k : Int) := by omega
        cases hok : okK p (true && true && true && true) k
        · clear HZ hok
          by_cases he : e = 0
          · subst he
            go_wp2_with fail
            refine (HD.out _ ((HA.out.below HO.out.below (Nat.le_refl _)).more HO.out.size) ((HP.out.below HO.out.below (Nat.le_refl _)).more HO.out.size)).mono ?_
            rintro en wn ⟨u, rfl, hu1, hu2, hbn⟩
            have HU := Lib.hid (And.intro hu1 hu2)
            clear hu1 hu2
            have O := HO.out.keep hbn
            clear HO c0 f0 z0 y0 zz
            obtain ⟨c0, f0, z0, y0, -, zz⟩ := O.rules
            have HO := Lib.hid O; clear O
            clear hbn
            go_wp2_with fail
            refine (HG.out _ ((HP.out.below HO.out.below (Nat.le_refl _)).more HO.out.size)).mono ?_
            rintro en wn ⟨A', c', rfl, hp', hbn⟩
            have HP' := Lib.hid hp'
            clear hp'
            have O := HO.out.keep hbn
            clear HO c0 f0 z0 y0 zz
            obtain ⟨c0, f0, z0, y0, -, zz⟩ := O.rules
            have HO := Lib.hid O; clear O
            clear hbn
            go_wp2_with fail
            refine (HWR.out _ _ _ HP'.out).mono ?_
            rintro en wn ⟨rfl, hbn⟩
            have O := HO.out.keep hbn
            clear HO c0 f0 z0 y0 zz
            obtain ⟨c0, f0, z0, y0, -, zz⟩ := O.rules
            have HO := Lib.hid O; clear O
            clear hbn
            go_wp2_with fail
            refine (awake_any _).mono ?_
            rintro en wn ⟨rfl, hbn⟩
            have O := HO.out.keep hbn
            clear HO c0 f0 z0 y0 zz
            obtain ⟨c0, f0, z0, y0, -, zz⟩ := O.rules
            have HO := Lib.hid O; clear O
            clear hbn
            go_wp2_with fail
            go_ret
            exact ⟨by simp, HO.out.below⟩
          · have hne1 : (e == 0) = false := by simpa using he
            have hne2 : (e != 0) = true := by simpa using he
            clear he
            go_wp2_with fail
            refine (HD.out _ ((HA.out.below HO.out.below (Nat.le_refl _)).more HO.out.size) ((HP.out.below HO.out.below (Nat.le_refl _)).more HO.out.size)).mono ?_
            rintro en wn ⟨u, rfl, hu1, hu2, hbn⟩
            have HU := Lib.hid (And.intro hu1 hu2)
            clear hu1 hu2
            have O := HO.out.keep hbn
            clear HO c0 f0 z0 y0 zz
            obtain ⟨c0, f0, z0, y0, -, zz⟩ := O.rules
            have HO := Lib.hid O; clear O
            clear hbn
            go_wp2_with fail
            refine (HG.out _ ((HP.out.below HO.out.below (Nat.le_refl _)).more HO.out.size)).mono ?_
            rintro en wn ⟨A', c', rfl, hp', hbn⟩
            have HP' := Lib.hid hp'
            clear hp'
            have O := HO.out.keep hbn
            clear HO c0 f0 z0 y0 zz
            obtain ⟨c0, f0, z0, y0, -, zz⟩ := O.rules
            have HO := Lib.hid O; clear O
            clear hbn
            go_wp2_with fail
            refine (HWR.out _ _ _ HP'.out).mono ?_
            rintro en wn ⟨rfl, hbn⟩
            have O := HO.out.keep hbn
            clear HO c0 f0 z0 y0 zz
            obtain ⟨c0, f0, z0, y0, -, zz⟩ := O.rules
            have HO := Lib.hid O; clear O
            clear hbn
            go_wp2_with fail
            refine (awake_any _).mono ?_
            rintro en wn ⟨rfl, hbn⟩
            have O := HO.out.keep hbn
            clear HO c0 f0 z0 y0 zz
            obtain ⟨c0, f0, z0, y0, -, zz⟩ := O.rules
            have HO := Lib.hid O; clear O
            clear hbn
            go_wp2_with fail
            go_ret
            exact ⟨by simp, HO.out.below⟩
        · have hz := HZ.out hok
          have HZ2 := Lib.hid hz
          clear hz hok HZ
          by_cases he : e = 0
          · subst he
            go_wp2_with fail
            refine (HD.out _ ((HA.out.below HO.out.below (Nat.le_refl _)).more HO.out.size) ((HP.out.below HO.out.below (Nat.le_refl _)).more HO.out.size)).mono ?_
            rintro en wn ⟨u, rfl, hu1, hu2, hbn⟩
            have HU := Lib.hid (And.intro hu1 hu2)
            clear hu1 hu2
            have O := HO.out.keep hbn
            clear HO c0 f0 z0 y0 zz
            obtain ⟨c0, f0, z0, y0, -, zz⟩ := O.rules
            have HO := Lib.hid O; clear O
            clear hbn
            go_wp2_with fail
            refine (HG.out _ ((HP.out.below HO.out.below (Nat.le_refl _)).more HO.out.size)).mono ?_
            rintro en wn ⟨A', c', rfl, hp', hbn⟩
            have HP' := Lib.hid hp'
            clear hp'
            have O := HO.out.keep hbn
            clear HO c0 f0 z0 y0 zz
            obtain ⟨c0, f0, z0, y0, -, zz⟩ := O.rules
            have HO := Lib.hid O; clear O
            clear hbn
            go_wp2_with fail
            refine (HWR.out _ _ _ HP'.out).mono ?_
            rintro en wn ⟨rfl, hbn⟩
            have O := HO.out.keep hbn
            clear HO c0 f0 z0 y0 zz
            obtain ⟨c0, f0, z0, y0, -, zz⟩ := O.rules
            have HO := Lib.hid O; clear O
            clear hbn
            go_wp2_with fail
            have hu : u = 0 := cn_eq ((HU.out.2 (by first | exact rfl | exact trivial)).trans HZ2.out) (by decide)
            subst hu
            have HS := Lib.hid fun w => lsame_any 0 0 w (fun _ => by omega) (fun _ => by omega) (.inl ⟨by omega, by omega⟩)
            refine (awake_any _).mono ?_
            rintro en wn ⟨rfl, hbn⟩
            have O := HO.out.keep hbn
            clear HO c0 f0 z0 y0 zz
            obtain ⟨c0, f0, z0, y0, -, zz⟩ := O.rules
            have HO := Lib.hid O; clear O
            clear hbn
            go_wp2_with fail
            refine (HS.out _).mono ?_
            rintro en wn ⟨rfl, rfl⟩
            go_wp2_with fail
            go_ret
            exact ⟨by simp, HO.out.below⟩
          · have hne1 : (e == 0) = false := by simpa using he
            have hne2 : (e != 0) = true := by simpa using he
            clear he
            go_wp2_with fail
            refine (HD.out _ ((HA.out.below HO.out.below (Nat.le_refl _)).more HO.out.size) ((HP.out.below HO.out.below (Nat.le_refl _)).more HO.out.size)).mono ?_
            rintro en wn ⟨u, rfl, hu1, hu2, hbn⟩
            have HU := Lib.hid (And.intro hu1 hu2)
            clear hu1 hu2
            have O := HO.out.keep hbn
            clear HO c0 f0 z0 y0 zz
            obtain ⟨c0, f0, z0, y0, -, zz⟩ := O.rules
            have HO := Lib.hid O; clear O
            clear hbn
            go_wp2_with fail
            refine (HG.out _ ((HP.out.below HO.out.below (Nat.le_refl _)).more HO.out.size)).mono ?_
            rintro en wn ⟨A', c', rfl, hp', hbn⟩
            have HP' := Lib.hid hp'
            clear hp'
            have O := HO.out.keep hbn
            clear HO c0 f0 z0 y0 zz
            obtain ⟨c0, f0, z0, y0, -, zz⟩ := O.rules
            have HO := Lib.hid O; clear O
            clear hbn
            go_wp2_with fail
            refine (HWR.out _ _ _ HP'.out).mono ?_
            rintro en wn ⟨rfl, hbn⟩
            have O := HO.out.keep hbn
            clear HO c0 f0 z0 y0 zz
            obtain ⟨c0, f0, z0, y0, -, zz⟩ := O.rules
            have HO := Lib.hid O; clear O
            clear hbn
            go_wp2_with fail
            refine (awake_any _).mono ?_
            rintro en wn ⟨rfl, hbn⟩
            have O := HO.out.keep hbn
            clear HO c0 f0 z0 y0 zz
            obtain ⟨c0, f0, z0, y0, -, zz⟩ := O.rules
            have HO := Lib.hid O; clear O
            clear hbn
            go_wp2_with fail
            go_ret
            exact ⟨by simp, HO.out.below⟩

theorem likeItself_walk (cI cO cX cT np cp n c : Nat) (Ap A : Option Addr) (p : Nat → Int × Int × Nat) (fa : Nat → Int) (w : World) (hA : NameAt w w.heap.size A n fa) (hp : PairsAt w w.heap.size Ap np p)
    (hn : n ≤ 1048576) (hnp : np ≤ 1048576) (lI : cI < 2 ^ 64) (lO : cO < 2 ^ 64) (lX : cX < 2 ^ 64) (lT : cT < 2 ^ 64) :
    Calls Try.prog 4 #[.agg #[.float .f64 cI, .float .f64 cO, .float .f64 cX, .float .f64 cT, .slice Ap np cp], .slice A n c] w fun en w' => en = .returned (.bool true) ∧ Below w.heap.size w w' :=
  likeItself_core cI cO cX cT np cp n c Ap A p fa (errN p np n n) (tabT cI cO cX cT p np fa fa) _ _ _ _ w hA hp hn hnp
    (fun w hA hp => dist_any cI cO cX cT n n c c np cp A A Ap p fa fa w hA hA hn hn hnp hp)
    (fun w hp => given_any cI cO cX cT Ap np cp p w hnp hp)
    (fun A' c' w hp => wrong_any cI cO cX cT n n c c np c' A A A' p w hn hn hnp hp)
    rfl rfl rfl rfl (fun h => by
      obtain ⟨h1, h2⟩ := okK_true np h
      simp only [Bool.and_eq_true] at h1
      obtain ⟨⟨⟨g1, g2⟩, g3⟩, g4⟩ := h1
      exact (tab_itself (tabT_is cI cO cX cT p np fa fa) (cst_of lI (by unfold g64; exact g1)) (cst_of lO (by unfold g64; exact g2)) (cst_of lX (by unfold g64; exact g3)) (cst_of lT (by unfold g64; exact g4)) h2 _ n n rfl).2 rfl)

theorem likeItself_own : ownKnob Try.prog.godebug = none := by kernel_rfl
theorem likeItself_laid : laidOutB Try.prog = true := by kernel_rfl
theorem likeItself_types : ∀ t ∈ ([26, 22] : List TypeId), Try.prog.readableRec t = true ∧ t < Try.prog.types.size := by
  simp only [List.mem_cons, List.not_mem_nil, or_false, forall_eq_or_imp, forall_eq]
  exact ⟨⟨by kernel_rfl, of_decide_eq_true (by kernel_rfl)⟩, ⟨by kernel_rfl, of_decide_eq_true (by kernel_rfl)⟩⟩
set_option maxRecDepth 100000 in
theorem likeItself_lifted (os : Os) (started : os.Started) (H : Type) (enc : TypeId × Value → H) (F : Stop.Interp) :
    ReturnsInHanded {} Try.checked os 4 .any ((Rows.OpenSpec.upto Rows.likeItselfSpec).pre6 enc Try.prog Try.f4 Rows.likeItselfUptoRow.domain false) (((Rows.OpenSpec.upto Rows.likeItselfSpec).at F).post enc Try.prog Try.f4 false true false false) := by
  refine returnsInHanded_of_cond (C := Try.checked) (s := Rows.OpenSpec.upto Rows.likeItselfSpec) (k := Rows.uptoSmall) rfl likeItself_own started (by kernel_rfl) Try.func4
    (OpenSpec.witness (enc := enc) (C := Try.checked) (s := Rows.OpenSpec.upto Rows.likeItselfSpec) (k := Rows.uptoSmall) rfl false ⟨#[], #[.agg #[.float .f64 0, .float .f64 0, .float .f64 0, .float .f64 0, .slice none 0 0], .slice none 0 0], []⟩ 8 (by kernel_rfl) (by kernel_rfl) (by kernel_rfl) (x := ([.agg [.lit (.float .f64 0), .lit (.float .f64 0), .lit (.float .f64 0), .lit (.float .f64 0), .nil], .nil], [], [])) (by kernel_rfl) rfl (by kernel_rfl)) ?_
  intro W base args ds gs before hval0 hW _ hk _
  have hval : ∀ (j : Nat) t v, Try.f4.params[j]? = some t → args[j]? = some v → Value.okWide Try.prog W .any base t v := hval0
  have hW' := hW
  obtain ⟨p, q, hA0, hV, rfl, hfz, hnd⟩ := hW
  have hA : DataW.TrodAll enc Try.prog W 0 (fun _ => true) true Try.f4.params.toList args.toList ds p := hA0
  obtain ⟨rfl, rfl⟩ := trodVars_none hV
  have hpost : ∀ W', Below W.heap.size W W' → Rows.likeItselfSpec.post enc Try.prog Try.f4 false true false false W args (.bool true) W' := fun W' hb => by
    have hlen : ds.length = 2 := by have hh := hA; rw [Try.params4] at hh; obtain ⟨_, _, d0, ds0, _, _, _, rfl, _, _, hh⟩ := trodAll_cons hh; obtain ⟨_, _, d1, ds1, _, _, _, rfl, _, _, hh⟩ := trodAll_cons hh; obtain ⟨_, rfl, _⟩ := trodAll_nil hh; simp
    obtain ⟨e0, e1, rfl⟩ : ∃ e0 e1, ds = [e0, e1] := by match ds, hlen with | [e0, e1], _ => exact ⟨e0, e1, rfl⟩
    exact law_post likeItself_laid rfl hW' (by rw [Try.params4]; exact likeItself_types) (tb := 4) (by kernel_rfl) Try.underlying4 rfl rfl rfl hb
  rw [Try.params4] at hA hval
  obtain ⟨v0, vs0, d0, ds0, p0, q0, hargs, rfl, rfl, h0, r0⟩ := trodAll_cons hA
  obtain ⟨v1, vs1, d1, ds1, p1, q1, rfl, rfl, rfl, h1, r1⟩ := trodAll_cons r0
  obtain ⟨rfl, rfl, rfl⟩ := trodAll_nil r1
  obtain rfl : args = #[v0, v1] := by cases args; simp_all
  obtain ⟨cI, cO, cX, cT, Ap, np, cp, p, rfl, bP, nP, lI, lO, lX, lT⟩ := open_costs Try.underlying26 (by kernel_rfl) (by kernel_rfl) Try.underlying23 Try.underlying23 Try.underlying23 Try.underlying23 Try.underlying24 Try.underlying35 (by kernel_rfl) (by kernel_rfl) Try.underlying21 Try.underlying21 Try.underlying33 (hval 0 26 v0 rfl rfl) h0
  obtain ⟨A, n, c, fa, rfl, bA, nA⟩ := open_name Try.underlying22 Try.underlying21 (by kernel_rfl) (hval 1 22 v1 rfl rfl) h1
  have hbk := upto_bound hk
  simp only [Rows.uptoBulkAll, List.cons_append, List.nil_append, List.append_nil] at hbk
  refine (likeItself_walk cI cO cX cT np cp n c Ap A p fa W nA nP (by omega) (by omega) lI lO lX lT).mono fun e W' ⟨he, hg⟩ => ?_
  subst he
  exact ⟨_, rfl, hpost _ hg⟩

theorem likeItself_holds : Rows.LikeItselfUptoSaid :=
  OpenClaim.holds_of_cond 4 Try.f4 rfl rfl rfl rfl rfl rfl rfl ⟨rfl, rfl, rfl, rfl, rfl⟩ rfl rfl rfl rfl rfl (by kernel_rfl) Try.func4 (by kernel_rfl)
    (of_decide_eq_true (by kernel_rfl)) (by unfold Func.isWrapper; first | (rw [if_pos (by decide +kernel)]; kernel_rfl) | (rw [if_neg (by decide +kernel)]; exact ⟨rfl, rfl⟩))
    (fun os started H enc _ F => likeItself_lifted os started H enc F)
#print axioms likeItself_holds

end Go.Proofs.Ytkhdemaanakbeaa
