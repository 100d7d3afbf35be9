/- At how many places two names differ: both texts. Condition: names of at most 2^45 code points. -/
import Derived.Test.YtkhdemaanakbeaaLj
namespace Go.Proofs.Ytkhdemaanakbeaa
open Go.RowKit Go.Pst
set_option maxRecDepth 20000
set_option linter.unusedSimpArgs false
set_option linter.unusedVariables false
def hamN (fa fb : Nat → Int) : Nat → Nat
  | 0 => 0
  | k + 1 => hamN fa fb k + (if fa k = fb k then 0 else 1)
theorem hamN_le (fa fb : Nat → Int) : ∀ k, hamN fa fb k ≤ k
  | 0 => Nat.le_refl _
  | k + 1 => by have := hamN_le fa fb k; unfold hamN; split <;> omega
theorem hamN_comm (fa fb : Nat → Int) : ∀ k, hamN fa fb k = hamN fb fa k
  | 0 => rfl
  | k + 1 => by
    unfold hamN
    rw [hamN_comm fa fb k]
    by_cases h : fa k = fb k
    · rw [if_pos h, if_pos h.symm]
    · rw [if_neg h, if_neg (fun e => h e.symm)]
def hamV (n m : Nat) (fa fb : Nat → Int) : Nat := if n = m then hamN fa fb n else 0
def HamPost (n m : Nat) (fa fb : Nat → Int) (w : World) (en : Ending) (w' : World) : Prop := en = .returned (.tuple #[.int .i64 (hamV n m fa fb : Nat), .bool (decide (n = m))]) ∧ Below w.heap.size w w'
set_option maxHeartbeats 1000000 in
theorem hamming_any (A B : Option Addr) (n m c d : Nat) (fa fb : Nat → Int) (w : World) (hA : NameAt w w.heap.size A n fa) (hB : NameAt w w.heap.size B m fb) (hn : n ≤ 35184372088832) (hm : m ≤ 35184372088832) :
    Calls Try.prog 38 #[.slice A n c, .slice B m d] w (HamPost n m fa fb w) := by
  have HA := Lib.hid hA; have HB := Lib.hid hB
  clear hA hB
  unfold HamPost
  by_cases e : n = m
  · subst e
    have e1 : hamV n n fa fb = hamN fa fb n := if_pos rfl
    rw [e1, decide_eq_true rfl]
    go_enter Try.func38, Try.ntmps38
    go_wp2_with fail
    go_loopw [6, 15] (fun s t wr => ∃ k : Nat, t = .int .i64 (k : Int) ∧ s = .int .i64 (hamN fa fb k : Nat) ∧ k ≤ n ∧ Below w.heap.size w wr) (fun _ t _ => n - (intOf t).toNat)
    case atStart => exact ⟨0, rfl, rfl, by omega, Below.refl _ _⟩
    case round =>
      obtain ⟨k, rfl, rfl, hk, hbw⟩ := hrel
      have BW := Lib.hid hbw
      have hsz := hbw.size
      clear hbw
      have hle := hamN_le fa fb k
      by_cases hkn : k < n
      · have h3 : (k : Int) < (n : Int) := by omega
        have h00 : (0 : Int) ≤ (k : Int) := by omega
        obtain ⟨ga, oa, rfl, hga, hca⟩ := (HA.out.below BW.out (Nat.le_refl _)) (by omega)
        obtain ⟨gb, ob, rfl, hgb, hcb⟩ := (HB.out.below BW.out (Nat.le_refl _)) (by omega)
        have qa := hca k hkn
        have qb := hcb k hkn
        have qga : ga < wr.heap.size := by omega
        have qgb : gb < wr.heap.size := by omega
        have HN : Hid (hamN fa fb (k + 1) = hamN fa fb k + (if fa k = fb k then 0 else 1)) := Lib.hid rfl
        generalize hh : hamN fa fb k = h at *
        clear hca hcb
        cases hfe : (fa k == fb k)
        · have HM : Hid (hamN fa fb (k + 1) = h + 1) := Lib.hid (by rw [HN.out, if_neg (by simpa using hfe)])
          clear HN hh
          go_wp2_with fail
          refine Reg.wp_region_rd (by kernel_rfl) (by kernel_rfl) (fun _ => ?_)
          repeat (refine Reg.rd_op rfl ?_; apply Exists.intro; apply And.intro; (intro w' hb; have hc := Reg.rd_cells hb; clear hb; go_simp; (try go_bits); first | done | (with_reducible exact rfl)); (intro _ a' ha'; simp only [Act.put, List.setIfInBounds_toArray, List.set_cons_zero, List.set_cons_succ] at ha'; subst ha'))
          refine Reg.rd_end (fun wz hb => ?_)
          have BW2 := Lib.hid (BW.out.trans (hb.mono hsz))
          clear hb
          go_wp2_with fail
          go_roundw
          case rel => exact ⟨k + 1, by go_num, by rw [HM.out]; go_num, by omega, BW2.out⟩
          case measure => (simp [intOf] <;> omega)
        · have HM : Hid (hamN fa fb (k + 1) = h) := Lib.hid (by rw [HN.out, if_pos (by simpa using hfe)]; rfl)
          clear HN hh
          go_wp2_with fail
          refine Reg.wp_region_rd (by kernel_rfl) (by kernel_rfl) (fun _ => ?_)
          repeat (refine Reg.rd_op rfl ?_; apply Exists.intro; apply And.intro; (intro w' hb; have hc := Reg.rd_cells hb; clear hb; go_simp; (try go_bits); first | done | (with_reducible exact rfl)); (intro _ a' ha'; simp only [Act.put, List.setIfInBounds_toArray, List.set_cons_zero, List.set_cons_succ] at ha'; subst ha'))
          refine Reg.rd_end (fun wz hb => ?_)
          have BW2 := Lib.hid (BW.out.trans (hb.mono hsz))
          clear hb
          go_wp2_with fail
          go_roundw
          case rel => exact ⟨k + 1, by go_num, by rw [HM.out], by omega, BW2.out⟩
          case measure => (simp [intOf] <;> omega)
      · obtain rfl : k = n := by omega
        have hnlt : ¬ (k : Int) < (k : Int) := by omega
        go_wp2_with fail
        go_ret2
        exact ⟨rfl, BW.out⟩
  · have e1 : hamV n m fa fb = 0 := if_neg e
    rw [e1, decide_eq_false e]
    have e2 : ¬ (n : Int) = (m : Int) := by omega
    have e3 : ((n : Int) == (m : Int)) = false := by simpa using e2
    clear e e1
    go_enter Try.func38, Try.ntmps38
    go_wp2_with fail
    go_ret2
    exact ⟨rfl, Below.refl _ _⟩
set_option maxHeartbeats 1000000 in
theorem rhamming_any (A B : Option Addr) (n m c d : Nat) (fa fb : Nat → Int) (w : World) (hA : NameAt w w.heap.size A n fa) (hB : NameAt w w.heap.size B m fb) (hn : n ≤ 35184372088832) (hm : m ≤ 35184372088832) :
    Calls Try.prog 43 #[.slice A n c, .slice B m d] w (HamPost n m fa fb w) := by
  have HA := Lib.hid hA; have HB := Lib.hid hB
  clear hA hB
  unfold HamPost
  by_cases e : n = m
  · subst e
    have e1 : hamV n n fa fb = hamN fa fb n := if_pos rfl
    rw [e1, decide_eq_true rfl]
    go_enter Try.func43, Try.ntmps43
    go_wp2_with fail
    go_loopw [6, 7] (fun s t wr => ∃ k : Nat, t = .int .i64 (k : Int) ∧ s = .int .i64 (hamN fa fb k : Nat) ∧ k ≤ n ∧ Below w.heap.size w wr) (fun _ t _ => n - (intOf t).toNat)
    case atStart => exact ⟨0, rfl, rfl, by omega, Below.refl _ _⟩
    case round =>
      obtain ⟨k, rfl, rfl, hk, hbw⟩ := hrel
      have BW := Lib.hid hbw
      have hsz := hbw.size
      clear hbw
      have hle := hamN_le fa fb k
      by_cases hkn : k < n
      · have h3 : (k : Int) < (n : Int) := by omega
        have h00 : (0 : Int) ≤ (k : Int) := by omega
        obtain ⟨ga, oa, rfl, hga, hca⟩ := (HA.out.below BW.out (Nat.le_refl _)) (by omega)
        obtain ⟨gb, ob, rfl, hgb, hcb⟩ := (HB.out.below BW.out (Nat.le_refl _)) (by omega)
        have qa := hca k hkn
        have qb := hcb k hkn
        have qga : ga < wr.heap.size := by omega
        have qgb : gb < wr.heap.size := by omega
        have HN : Hid (hamN fa fb (k + 1) = hamN fa fb k + (if fa k = fb k then 0 else 1)) := Lib.hid rfl
        generalize hh : hamN fa fb k = h at *
        clear hca hcb
        cases hfe : (fa k == fb k)
        · have HM : Hid (hamN fa fb (k + 1) = h + 1) := Lib.hid (by rw [HN.out, if_neg (by simpa using hfe)])
          clear HN hh
          go_wp2_with fail
          refine Reg.wp_region_rd (by kernel_rfl) (by kernel_rfl) (fun _ => ?_)
          repeat (refine Reg.rd_op rfl ?_; apply Exists.intro; apply And.intro; (intro w' hb; have hc := Reg.rd_cells hb; clear hb; go_simp; (try go_bits); first | done | (with_reducible exact rfl)); (intro _ a' ha'; simp only [Act.put, List.setIfInBounds_toArray, List.set_cons_zero, List.set_cons_succ] at ha'; subst ha'))
          refine Reg.rd_end (fun wz hb => ?_)
          have BW2 := Lib.hid (BW.out.trans (hb.mono hsz))
          clear hb
          go_wp2_with fail
          go_roundw
          case rel => exact ⟨k + 1, by go_num, by rw [HM.out]; go_num, by omega, BW2.out⟩
          case measure => (simp [intOf] <;> omega)
        · have HM : Hid (hamN fa fb (k + 1) = h) := Lib.hid (by rw [HN.out, if_pos (by simpa using hfe)]; rfl)
          clear HN hh
          go_wp2_with fail
          refine Reg.wp_region_rd (by kernel_rfl) (by kernel_rfl) (fun _ => ?_)
          repeat (refine Reg.rd_op rfl ?_; apply Exists.intro; apply And.intro; (intro w' hb; have hc := Reg.rd_cells hb; clear hb; go_simp; (try go_bits); first | done | (with_reducible exact rfl)); (intro _ a' ha'; simp only [Act.put, List.setIfInBounds_toArray, List.set_cons_zero, List.set_cons_succ] at ha'; subst ha'))
          refine Reg.rd_end (fun wz hb => ?_)
          have BW2 := Lib.hid (BW.out.trans (hb.mono hsz))
          clear hb
          go_wp2_with fail
          go_roundw
          case rel => exact ⟨k + 1, by go_num, by rw [HM.out], by omega, BW2.out⟩
          case measure => (simp [intOf] <;> omega)
      · obtain rfl : k = n := by omega
        have hnlt : ¬ (k : Int) < (k : Int) := by omega
        go_wp2_with fail
        go_ret2
        exact ⟨rfl, BW.out⟩
  · have e1 : hamV n m fa fb = 0 := if_neg e
    rw [e1, decide_eq_false e]
    have e2 : ¬ (n : Int) = (m : Int) := by omega
    have e3 : ((n : Int) == (m : Int)) = false := by simpa using e2
    clear e e1
    go_enter Try.func43, Try.ntmps43
    go_wp2_with fail
    go_ret2
    exact ⟨rfl, Below.refl _ _⟩
end Go.Proofs.Ytkhdemaanakbeaa
