/- The table that is handed out, and what is alike. Condition: the names and the rows are not too many. -/
import Derived.Test.YtkhdemaanakbeaaLr
namespace Go.Proofs.Ytkhdemaanakbeaa
open Go.RowKit Go.Pst
set_option maxRecDepth 100000
set_option linter.unusedSimpArgs false
set_option linter.unusedVariables false

def MTPost (T : Nat → Nat → Nat) (e : Int) (n m : Nat) (w : World) (en : Ending) (w' : World) : Prop :=
  Below w.heap.size w w' ∧ ((e ≠ 0 ∧ en = .returned (.tuple #[.slice none 0 0, .int .i64 e])) ∨
    (e = 0 ∧ ∃ B R H, en = .returned (.tuple #[.slice (some ⟨B, 0, none⟩) (n + 1) (n + 1), .int .i64 e]) ∧ Grid w' H B (n + 1) (m + 1) (n + 1) R T))

set_option maxHeartbeats 1000000 in
theorem mtable_any (cI cO cX cT n m c d np cp : Nat) (A B Ap : Option Addr) (p : Nat → Int × Int × Nat) (fa fb : Nat → Int) (w : World) (hA : NameAt w w.heap.size A n fa) (hB : NameAt w w.heap.size B m fb)
    (hn : n ≤ 1048576) (hm : m ≤ 1048576) (hnp : np ≤ 1048576) (hp : PairsAt w w.heap.size Ap np p) :
    Calls Try.prog 22 #[.agg #[.float .f64 cI, .float .f64 cO, .float .f64 cX, .float .f64 cT, .slice Ap np cp], .slice A n c, .slice B m d] w
      (MTPost (tabT cI cO cX cT p np fa fb) (errN p np n m) n m w) := by
  have hmay := fun w hp => may_any cI cO cX cT n m c d np cp A B Ap p w hn hm hnp hp
  have htab := fun w hA hB hp h1 h2 => table_any cI cO cX cT n m c d np cp A B Ap p fa fb (tabT cI cO cX cT p np fa fb) w hA hB hn hm h1 hp h2 (tabT_is ..)
  have hok := @err_ok p np n m
  generalize tabT cI cO cX cT p np fa fb = T at *
  generalize errN p np n m = e at *
  have HM := Lib.hid hmay; have HTB := Lib.hid htab; have HP := Lib.hid hp; have HA := Lib.hid hA; have HB := Lib.hid hB
  clear hmay htab hp hA hB
  by_cases he : e = 0
  · subst he
    obtain ⟨k1, k2, k3, -⟩ := hok rfl
    have HR := Lib.hid k2
    clear hok k2 k3
    go_enter Try.func22, Try.ntmps22
    go_wp2_with fail
    have O := (Reg.Own.nil w).alloc rfl #[.float .f64 cI, .float .f64 cO, .float .f64 cX, .float .f64 cT, .slice Ap np cp] 26
    obtain ⟨c0, f0, z0, y0, -, zz⟩ := O.rules
    have HO := Lib.hid O; clear O
    refine (HM.out _ ((HP.out.below HO.out.below (Nat.le_refl _)).more HO.out.size)).mono ?_
    rintro en wn ⟨rfl, hbn⟩
    have O := HO.out.keep hbn
    clear HO c0 f0 z0 y0 zz
    obtain ⟨c0, f0, z0, y0, -, zz⟩ := O.rules
    have HO := Lib.hid O; clear O
    clear hbn
    go_wp2_with fail
    refine (HTB.out _ ((HA.out.below HO.out.below (Nat.le_refl _)).more HO.out.size) ((HB.out.below HO.out.below (Nat.le_refl _)).more HO.out.size) ((HP.out.below HO.out.below (Nat.le_refl _)).more HO.out.size) k1 HR.out).mono ?_
    rintro en wt ⟨Bk, R, rfl, hbt, g⟩
    have GR := Lib.hid g
    have hb2 := Lib.hid (HO.out.keep hbt)
    clear hbt g
    go_wp2_with fail
    go_ret2
    exact ⟨hb2.out.below, .inr ⟨rfl, Bk, R, _, rfl, GR.out⟩⟩
  · have he' : (e == 0) = false := by simpa using he
    have he2 : (e != 0) = true := by simp [he]
    have HE := Lib.hid he
    clear he hok HTB
    go_enter Try.func22, Try.ntmps22
    go_wp2_with fail
    have O := (Reg.Own.nil w).alloc rfl #[.float .f64 cI, .float .f64 cO, .float .f64 cX, .float .f64 cT, .slice Ap np cp] 26
    obtain ⟨c0, f0, z0, y0, -, zz⟩ := O.rules
    have HO := Lib.hid O; clear O
    refine (HM.out _ ((HP.out.below HO.out.below (Nat.le_refl _)).more HO.out.size)).mono ?_
    rintro en wn ⟨rfl, hbn⟩
    have O := HO.out.keep hbn
    clear HO c0 f0 z0 y0 zz
    obtain ⟨c0, f0, z0, y0, -, zz⟩ := O.rules
    have HO := Lib.hid O; clear O
    clear hbn
    go_wp2_with fail
    go_ret2
    exact ⟨HO.out.below, .inl ⟨HE.out, rfl⟩⟩

/-- Two numbers that are the same up to which no number they are. -/
theorem alike_any (a b t : Nat) (w : World) (ha : cn a = t) (hb : cn b = t) (ht : t < 2 ^ 64) :
    Calls Try.prog 19 #[.float .f64 a, .float .f64 b] w fun en w' => en = .returned (.bool true) ∧ Below w.heap.size w w' := by
  have e1 : nan64 a = nan64 b := by rw [← cn_nan a, ← cn_nan b, ha, hb]
  have h1 : nan64 a = false → a < 2 ^ 64 := fun h => by rw [cn_of a h] at ha; omega
  have h2 : nan64 b = false → b < 2 ^ 64 := fun h => by rw [cn_of b h] at hb; omega
  refine (lsame_any a b w h1 h2 ?_).mono fun en w' ⟨k1, k2⟩ => ⟨by rw [k1, ha, hb]; simp, by subst k2; exact Below.refl _ _⟩
  cases hna : nan64 a
  · exact .inl ⟨h2 (e1 ▸ hna), h1 hna⟩
  · exact .inr ⟨rfl, e1 ▸ hna⟩

end Go.Proofs.Ytkhdemaanakbeaa
