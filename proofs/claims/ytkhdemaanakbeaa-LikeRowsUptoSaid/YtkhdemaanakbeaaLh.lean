/- Which row of costs may not be; what is wrong with costs and names; the distance. Conditions: the names are not too long. -/
import Derived.Test.YtkhdemaanakbeaaLg
namespace Go.Proofs.Ytkhdemaanakbeaa
open Go.RowKit Go.Pst
set_option maxRecDepth 100000
set_option linter.unusedSimpArgs false
set_option linter.unusedVariables false

/-- A row that may not be. -/
def badB (p : Nat → Int × Int × Nat) (i : Nat) : Bool := (p i).1 == (p i).2.1 || (decide (0 < i) && decide (0 ≤ ordC (p (i - 1)).1 (p (i - 1)).2.1 (p i).1 (p i).2.1))

def chkN (p : Nat → Int × Int × Nat) (n : Nat) : Nat × Int :=
  if 4096 < n then (4096, 270) else match (List.range n).find? (badB p) with | some i => (i, 270) | none => (0, 0)

theorem chk_big {p : Nat → Int × Int × Nat} {n : Nat} (h : 4096 < n) : chkN p n = (4096, 270) := by unfold chkN; rw [if_pos h]
theorem chk_bad {p : Nat → Int × Int × Nat} {n k : Nat} (h : n ≤ 4096) (hk : k < n) (hb : badB p k = true) (hl : ∀ i, i < k → badB p i = false) : chkN p n = (k, 270) := by
  unfold chkN
  rw [if_neg (by omega)]
  have : (List.range n).find? (badB p) = some k := by
    rw [List.find?_range_eq_some]; exact ⟨hb, by simpa using hk, fun j hj => by rw [hl j hj]; rfl⟩
  rw [this]
theorem chk_ok {p : Nat → Int × Int × Nat} {n : Nat} (h : n ≤ 4096) (hl : ∀ i, i < n → badB p i = false) : chkN p n = (0, 0) := by
  unfold chkN
  rw [if_neg (by omega)]
  have : (List.range n).find? (badB p) = none := by
    rw [List.find?_eq_none]; intro x hx; rw [hl x (by simpa using hx)]; simp
  rw [this]
theorem chk_or (p : Nat → Int × Int × Nat) (n : Nat) : ((chkN p n).2 = 0 ∧ (chkN p n).1 = 0 ∧ n ≤ 4096 ∧ ∀ i, i < n → badB p i = false) ∨ ((chkN p n).2 = 270) := by
  by_cases h : 4096 < n
  · right; rw [chk_big h]
  · cases hf : (List.range n).find? (badB p) with
    | none =>
      left
      rw [List.find?_eq_none] at hf
      have hl : ∀ i, i < n → badB p i = false := fun i hi => by have := hf i (by simpa using hi); simpa using this
      rw [chk_ok (by omega) hl]; exact ⟨rfl, rfl, by omega, hl⟩
    | some k => right; unfold chkN; rw [if_neg h, hf]

theorem ordC_trans {a b a' b' a'' b'' : Int} (h1 : ordC a b a' b' < 0) (h2 : ordC a' b' a'' b'' < 0) : ordC a b a'' b'' < 0 := by
  rw [(ordC_spec _ _ _ _).1] at *; omega

theorem rising_of {p : Nat → Int × Int × Nat} {n : Nat} (h : ∀ i, i < n → badB p i = false) : Rising n p := by
  intro i j hij hj
  obtain ⟨d, rfl⟩ : ∃ d, j = i + 1 + d := ⟨j - i - 1, by omega⟩
  have st : ∀ k, k + 1 < n → ordC (p k).1 (p k).2.1 (p (k + 1)).1 (p (k + 1)).2.1 < 0 := fun k hk => by
    have := h (k + 1) hk
    unfold badB at this
    simp only [Bool.or_eq_false_iff, Bool.and_eq_false_iff, Nat.add_sub_cancel] at this
    rcases this.2 with h1 | h1
    · simp at h1
    · simp at h1; omega
  induction d with
  | zero => exact st i hj
  | succ d ih => exact ordC_trans (ih (by omega) (by omega)) (st (i + 1 + d) hj)


def ChkPost (r : Nat × Int) (w : World) (en : Ending) (w' : World) : Prop := en = .returned (.tuple #[.int .i64 r.1, .int .i64 r.2]) ∧ Below w.heap.size w w'

set_option maxHeartbeats 4000000 in
theorem check_any (cI cO cX cT : Nat) (A : Option Addr) (n c : Nat) (p : Nat → Int × Int × Nat) (w : World) (hn : n ≤ 1048576) (hp : PairsAt w w.heap.size A n p) :
    Calls Try.prog 20 #[.agg #[.float .f64 cI, .float .f64 cO, .float .f64 cX, .float .f64 cT, .slice A n c]] w (ChkPost (chkN p n) w) := by
  by_cases hbig : 4096 < n
  · rw [chk_big hbig]
    have hbig' : (4096 : Int) < (n : Int) := by omega
    have HP := Lib.hid hp; clear hp hbig
    go_enter Try.func20, Try.ntmps20
    go_wp2
    go_ret2
    exact ⟨rfl, (Below.refl _ _).alloc (Nat.le_refl _) _⟩
  · have hbig' : ¬ (4096 : Int) < (n : Int) := by omega
    have hn2 : n ≤ 4096 := by omega
    have HP := Lib.hid hp; clear hp hbig hn
    obtain ⟨r, hr⟩ : ∃ r, r = chkN p n := ⟨_, rfl⟩
    rw [← hr]
    have HR := Lib.hid hr; clear hr
    go_enter Try.func20, Try.ntmps20
    go_wp2
    go_loopw [13] (fun t wr => ∃ k : Nat, t = .int .i64 k ∧ k ≤ n ∧ (∀ i, i < k → badB p i = false) ∧ Reg.Own w wr [(w.heap.size, #[.float .f64 cI, .float .f64 cO, .float .f64 cX, .float .f64 cT, .slice A n c], 26)]) (fun t _ => n - (intOf t).toNat)
    case atStart => exact ⟨0, rfl, by omega, fun i h => by omega, (Reg.Own.nil w).alloc rfl _ _⟩
    case round =>
      obtain ⟨k, rfl, hk, hl, HO'⟩ := hrel
      have HL := Lib.hid hl; clear hl
      have O := HO'
      obtain ⟨c0, f0, z0, y0, -, zz⟩ := O.rules
      have HO := Lib.hid O; clear O
      by_cases hkn : k < n
      · obtain ⟨g, off, rfl, hg, hcell⟩ := (HP.out.below HO.out.below (Nat.le_refl _)) (by omega)
        obtain ⟨q1, q2, q3⟩ := hcell k hkn
        have hg2 : g < wr.heap.size := by omega
        have hk1 : (k : Int) < (n : Int) := by omega
        have hsz : w.heap.size < wr.heap.size := by omega
        cases heq : ((p k).1 == (p k).2.1)
        · by_cases hk0 : k = 0
          · have hd1 : decide ((0 : Int) < (k : Int)) = false := by simp; omega
            have hd2 : decide (0 < k) = false := by simp; omega
            have hd3 : ¬ (0 : Int) < (k : Int) := by omega
            have hd4 : ¬ 0 < k := by omega
            have HB := Lib.hid (show badB p k = false by unfold badB; rw [heq, hd2]; rfl)
            have HK := Lib.hid hk0
            clear hcell hk0
            go_wp2_with fail
            have HO1 := HO
            have O := HO.out.alloc rfl #[.int .i32 (p k).1, .int .i32 (p k).2.1, .float .f32 (p k).2.2] 35
            obtain ⟨c1, f1, z1, y1, ⟨n10, -⟩, c0, f0, z0, y0, -, zz⟩ := O.rules
            have HO := Lib.hid O; clear O
            refine Reg.wp_region_rd (by kernel_rfl) (by kernel_rfl) (fun _ => ?_)
            repeat (refine Reg.rd_op rfl ?_; apply Exists.intro; apply And.intro; (intro w' hb; have hc := Reg.rd_cells hb; clear hb; go_simp; (try go_bits); first | done | (with_reducible exact rfl)); (intro _ a' ha'; simp only [Act.put, List.setIfInBounds_toArray, List.set_cons_zero, List.set_cons_succ] at ha'; subst ha'))
            repeat (refine Reg.rd_skip rfl ?_; intro a' ha'; simp only [Act.put, List.setIfInBounds_toArray, List.set_cons_zero, List.set_cons_succ] at ha'; subst ha')
            repeat (refine Reg.rd_op rfl ?_; apply Exists.intro; apply And.intro; (intro w' hb; have hc := Reg.rd_cells hb; clear hb; go_simp; (try go_bits); first | done | (with_reducible exact rfl)); (intro _ a' ha'; simp only [Act.put, List.setIfInBounds_toArray, List.set_cons_zero, List.set_cons_succ] at ha'; subst ha'))
            refine Reg.rd_end (fun wz hb => ?_)
            have HOX := Lib.hid (HO1.out.keep (((Below.refl wr.heap.size wr).alloc (Nat.le_refl _) _).trans (hb.mono (by simp))))
            have HO2 := HOX
            clear hb
            go_wp2_with fail
            go_roundw
            case rel => exact ⟨k + 1, by go_num, by omega, fun i hi => (by
              rcases Nat.lt_or_ge i k with hx | hx
              · exact HL.out i hx
              · obtain rfl : i = k := by omega
                exact HB.out), HO2.out⟩
            case measure => simp [intOf]; omega
          · have hd1 : decide ((0 : Int) < (k : Int)) = true := by simp; omega
            have hd2 : decide (0 < k) = true := by simp; omega
            have hd3 : (0 : Int) < (k : Int) := by omega
            obtain ⟨k1, e1⟩ : ∃ k1 : Nat, k1 = k - 1 := ⟨_, rfl⟩
            have e1' : (k : Int) - 1 = (k1 : Int) := by omega
            have e2 : (k1 : Int) < (n : Int) := by omega
            have e3 : (0 : Int) ≤ (k1 : Int) := by omega
            obtain ⟨s1, s2, s3⟩ := hcell k1 (by omega)
            have hC := fun w => orderC_any (p k1).1 (p k1).2.1 (p k).1 (p k).2.1 (p k1).2.2 (p k).2.2 w
            have hbq : badB p k = decide (0 ≤ ordC (p k1).1 (p k1).2.1 (p k).1 (p k).2.1) := by unfold badB; rw [heq, hd2, ← e1]; simp
            generalize ordC (p k1).1 (p k1).2.1 (p k).1 (p k).2.1 = C at *
            have HC := Lib.hid hC; clear hC
            have HK := Lib.hid hk0; have HE := Lib.hid e1
            clear hcell hk0 e1
            by_cases hCn : (0 : Int) ≤ C
            · have HB := Lib.hid (show badB p k = true by rw [hbq]; simpa using hCn)
              clear hbq
              go_wp2_with fail
              have O := HO.out.alloc rfl #[.int .i32 (p k).1, .int .i32 (p k).2.1, .float .f32 (p k).2.2] 35
              obtain ⟨c1, f1, z1, y1, ⟨n10, -⟩, c0, f0, z0, y0, -, zz⟩ := O.rules
              have HO := Lib.hid O; clear O
              refine Reg.wp_region_rd (by kernel_rfl) (by kernel_rfl) (fun _ => ?_)
              repeat (refine Reg.rd_op rfl ?_; apply Exists.intro; apply And.intro; (intro w' hb; have hc := Reg.rd_cells hb; clear hb; go_simp; (try go_bits); first | done | (with_reducible exact rfl)); (intro _ a' ha'; simp only [Act.put, List.setIfInBounds_toArray, List.set_cons_zero, List.set_cons_succ] at ha'; subst ha'))
              refine Reg.rd_op rfl ?_; apply Exists.intro; apply And.intro
              · intro w' hb; have hsz := Reg.rd_size hb; clear hb; go_simp; (try go_bits); with_reducible exact HC.out _
              intro _ a' ha'; simp only [Act.put, List.setIfInBounds_toArray, List.set_cons_zero, List.set_cons_succ] at ha'; subst ha'
              repeat (refine Reg.rd_op rfl ?_; apply Exists.intro; apply And.intro; (intro w' hb; have hc := Reg.rd_cells hb; clear hb; go_simp; (try go_bits); first | done | (with_reducible exact rfl)); (intro _ a' ha'; simp only [Act.put, List.setIfInBounds_toArray, List.set_cons_zero, List.set_cons_succ] at ha'; subst ha'))
              refine Reg.rd_end (fun wz hb => ?_)
              have HO2 := Lib.hid (HO.out.keep hb)
              clear hb
              go_wp2_with fail
              go_ret2
              exact ⟨by rw [HR.out, chk_bad hn2 hkn HB.out HL.out]; rfl, HO2.out.below⟩
            · have HB := Lib.hid (show badB p k = false by rw [hbq]; simpa using hCn)
              clear hbq
              have HO1 := HO
              go_wp2_with fail
              have O := HO.out.alloc rfl #[.int .i32 (p k).1, .int .i32 (p k).2.1, .float .f32 (p k).2.2] 35
              obtain ⟨c1, f1, z1, y1, ⟨n10, -⟩, c0, f0, z0, y0, -, zz⟩ := O.rules
              have HO := Lib.hid O; clear O
              refine Reg.wp_region_rd (by kernel_rfl) (by kernel_rfl) (fun _ => ?_)
              repeat (refine Reg.rd_op rfl ?_; apply Exists.intro; apply And.intro; (intro w' hb; have hc := Reg.rd_cells hb; clear hb; go_simp; (try go_bits); first | done | (with_reducible exact rfl)); (intro _ a' ha'; simp only [Act.put, List.setIfInBounds_toArray, List.set_cons_zero, List.set_cons_succ] at ha'; subst ha'))
              refine Reg.rd_op rfl ?_; apply Exists.intro; apply And.intro
              · intro w' hb; have hsz := Reg.rd_size hb; clear hb; go_simp; (try go_bits); with_reducible exact HC.out _
              intro _ a' ha'; simp only [Act.put, List.setIfInBounds_toArray, List.set_cons_zero, List.set_cons_succ] at ha'; subst ha'
              repeat (refine Reg.rd_op rfl ?_; apply Exists.intro; apply And.intro; (intro w' hb; have hc := Reg.rd_cells hb; clear hb; go_simp; (try go_bits); first | done | (with_reducible exact rfl)); (intro _ a' ha'; simp only [Act.put, List.setIfInBounds_toArray, List.set_cons_zero, List.set_cons_succ] at ha'; subst ha'))
              refine Reg.rd_end (fun wz hb => ?_)
              have HOX := Lib.hid (HO1.out.keep (((Below.refl wr.heap.size wr).alloc (Nat.le_refl _) _).trans (hb.mono (by simp))))
              have HO2 := HOX
              clear hb
              go_wp2_with fail
              go_roundw
              case rel => exact ⟨k + 1, by go_num, by omega, fun i hi => (by
                rcases Nat.lt_or_ge i k with hx | hx
                · exact HL.out i hx
                · obtain rfl : i = k := by omega
                  exact HB.out), HO2.out⟩
              case measure => simp [intOf]; omega
        · have HB := Lib.hid (show badB p k = true by unfold badB; rw [heq]; rfl)
          clear hcell
          go_wp2_with fail
          have O := HO.out.alloc rfl #[.int .i32 (p k).1, .int .i32 (p k).2.1, .float .f32 (p k).2.2] 35
          obtain ⟨c1, f1, z1, y1, ⟨n10, -⟩, c0, f0, z0, y0, -, zz⟩ := O.rules
          have HO := Lib.hid O; clear O
          refine Reg.wp_region_rd (by kernel_rfl) (by kernel_rfl) (fun _ => ?_)
          repeat (refine Reg.rd_op rfl ?_; apply Exists.intro; apply And.intro; (intro w' hb; have hc := Reg.rd_cells hb; clear hb; go_simp; (try go_bits); first | done | (with_reducible exact rfl)); (intro _ a' ha'; simp only [Act.put, List.setIfInBounds_toArray, List.set_cons_zero, List.set_cons_succ] at ha'; subst ha'))
          repeat (refine Reg.rd_skip rfl ?_; intro a' ha'; simp only [Act.put, List.setIfInBounds_toArray, List.set_cons_zero, List.set_cons_succ] at ha'; subst ha')
          repeat (refine Reg.rd_op rfl ?_; apply Exists.intro; apply And.intro; (intro w' hb; have hc := Reg.rd_cells hb; clear hb; go_simp; (try go_bits); first | done | (with_reducible exact rfl)); (intro _ a' ha'; simp only [Act.put, List.setIfInBounds_toArray, List.set_cons_zero, List.set_cons_succ] at ha'; subst ha'))
          refine Reg.rd_end (fun wz hb => ?_)
          have HO2 := Lib.hid (HO.out.keep hb)
          clear hb
          go_wp2_with fail
          go_ret2
          exact ⟨by rw [HR.out, chk_bad hn2 hkn HB.out HL.out]; rfl, HO2.out.below⟩
      · obtain rfl : k = n := by omega
        have hkn' : ¬ (k : Int) < (k : Int) := by omega
        go_wp2_with fail
        go_ret2
        exact ⟨by rw [HR.out, chk_ok hn2 HL.out]; rfl, HO.out.below⟩

end Go.Proofs.Ytkhdemaanakbeaa
