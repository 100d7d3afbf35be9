/- Jaro's measure: the program. Condition: names of at most 2^45 code points. -/
import Derived.Test.YtkhdemaanakbeaaJb
import Derived.Test.YtkhdemaanakbeaaHx
import Derived.Test.YtkhdemaanakbeaaCq
import Derived.Test.YtkhdemaanakbeaaCa
namespace Go.Pst
open Go Ieee Go.RowKit
set_option linter.unusedVariables false
def TWO : Nat := 4611686018427387904
def THREE : Nat := 4613937818241073152
/-- Jaro's measure of what matches: L code points, t of them at other places. -/
def jaV (N K M T : Nat) : Nat := arV .quo (arV .add (arV .add (arV .quo M N) (arV .quo M K)) (arV .quo (arV .sub M (arV .quo T TWO)) M)) THREE
theorem ja_eq (N K M T : Nat) (w0 w1 w2 w3 w4 w5 w6 w7 : World) :
    cn (arU .quo w7 (arU .add w6 (arU .add w5 (arU .quo w3 M N) (arU .quo w4 M K)) (arU .quo w2 (arU .sub w1 M (arU .quo w0 T TWO)) M)) THREE) = jaV N K M T := by
  unfold jaV
  rw [cn_arU]
  refine arV_cn .quo ?_ rfl
  rw [cn_arU, cn_arV]
  refine arV_cn .add ?_ ?_
  · rw [cn_arU, cn_arV]
    exact arV_cn .add (by rw [cn_arU, cn_arV]) (by rw [cn_arU, cn_arV])
  · rw [cn_arU, cn_arV]
    refine arV_cn .quo ?_ rfl
    rw [cn_arU, cn_arV]
    exact arV_cn .sub rfl (by rw [cn_arU, cn_arV])
theorem jaV_cn (N K M T : Nat) : cn (jaV N K M T) = jaV N K M T ∧ jaV N K M T < 2 ^ 64 := ⟨cn_arV _ _ _, arV_lt _ _ _⟩
end Go.Pst
namespace Go.Proofs.Ytkhdemaanakbeaa
open Go.RowKit Go.Pst
set_option maxRecDepth 20000
set_option linter.unusedSimpArgs false
set_option linter.unusedVariables false
attribute [local go_sem] run_fsub run_fquo run_fadd
def jaroV (n m : Nat) (fa fb : Nat → Int) : Nat :=
  if n = 0 ∧ m = 0 then ONE else if n = 0 ∨ m = 0 then 0 else
  if (lfN m (jW n m) fa fb n).length = 0 then 0 else
  jaV (fl n) (fl m) (fl (lfN m (jW n m) fa fb n).length) (fl (hamN (fun k => (lfN m (jW n m) fa fb n).getD k 0) (fun k => (rtL (tkN m (jW n m) fa fb n) fb m).getD k 0) (lfN m (jW n m) fa fb n).length))
theorem jaroV_cn (n m : Nat) (fa fb : Nat → Int) : cn (jaroV n m fa fb) = jaroV n m fa fb ∧ jaroV n m fa fb < 2 ^ 64 := by
  unfold jaroV
  split
  · exact ⟨by decide, by decide⟩
  · split
    · exact ⟨by decide, by decide⟩
    · split
      · exact ⟨by decide, by decide⟩
      · exact jaV_cn ..
set_option maxHeartbeats 3000000 in
theorem jaro_core (A B : Option Addr) (n m c d L : Nat) (la lb : List Int) (fx fy : Nat → Int) (w : World) (hl : la.length = lb.length) (hL : la.length = L) (hfx : fx = fun k => la.getD k 0) (hfy : fy = fun k => lb.getD k 0) (hla : L ≤ 35184372088832) (hn0 : n ≠ 0) (hm0 : m ≠ 0)
    (hn : n ≤ 35184372088832) (hm : m ≤ 35184372088832)
    (hM : Calls Try.prog 59 #[.slice A n c, .slice B m d] w (ApplyPost la lb w)) :
    Calls Try.prog 44 #[.slice A n c, .slice B m d] w (FlLike (if L = 0 then 0 else jaV (fl n) (fl m) (fl L) (fl (hamN fx fy L))) w) := by
  have HM := Lib.hid hM
  clear hM
  have e1 : ((n : Int) == 0) = false := by simp; omega
  have e2 : ((m : Int) == 0) = false := by simp; omega
  by_cases h0 : L = 0
  · rw [if_pos h0]
    subst h0
    go_enter Try.func44, Try.ntmps44
    go_wp2_with fail
    refine (HM.out).mono ?_
    rintro en wm ⟨A', c', B', d', rfl, ho1, ho2, hbw⟩
    have BW := Lib.hid hbw
    obtain ⟨A1, c1, q1, hx⟩ := name_of_own ho1
    obtain ⟨B1, d1, q2, hy⟩ := name_of_own ho2
    obtain ⟨rfl, rfl⟩ : A' = A1 ∧ c' = c1 := by cases q1; exact ⟨rfl, rfl⟩
    obtain ⟨rfl, rfl⟩ : B' = B1 ∧ d' = d1 := by cases q2; exact ⟨rfl, rfl⟩
    clear q1 q2 ho1 ho2 hbw
    rw [← hl] at hy
    rw [← hl]
    rw [hL] at hx hy ⊢
    rw [← hfx] at hx
    rw [← hfy] at hy
    have HX := Lib.hid hx; have HY := Lib.hid hy
    clear hx hy hfx hfy
    clear hl hL
    go_wp2_with fail
    go_ret
    exact ⟨0, rfl, by decide, BW.out⟩
  · rw [if_neg h0]
    have e3 : ((L : Int) == 0) = false := by simp; omega
    have e4 : ¬ (L : Int) = 0 := by omega
    have FN := Lib.hid (floatInt_fl n); have FM := Lib.hid (floatInt_fl m); have FL := Lib.hid (floatInt_fl L)
    obtain ⟨T, hT⟩ : ∃ T, fl (hamN fx fy L) = T := ⟨_, rfl⟩
    have HT := Lib.hid hT
    rw [hT]
    clear hT
    generalize fl n = N at *
    generalize fl m = K at *
    generalize fl L = M at *
    go_enter Try.func44, Try.ntmps44
    go_wp2_with fail
    refine (HM.out).mono ?_
    rintro en wm ⟨A', c', B', d', rfl, ho1, ho2, hbw⟩
    have BW := Lib.hid hbw
    obtain ⟨A1, c1, q1, hx⟩ := name_of_own ho1
    obtain ⟨B1, d1, q2, hy⟩ := name_of_own ho2
    obtain ⟨rfl, rfl⟩ : A' = A1 ∧ c' = c1 := by cases q1; exact ⟨rfl, rfl⟩
    obtain ⟨rfl, rfl⟩ : B' = B1 ∧ d' = d1 := by cases q2; exact ⟨rfl, rfl⟩
    clear q1 q2 ho1 ho2 hbw
    rw [← hl] at hy
    rw [← hl]
    rw [hL] at hx hy ⊢
    rw [← hfx] at hx
    rw [← hfy] at hy
    have HX := Lib.hid hx; have HY := Lib.hid hy
    clear hx hy hfx hfy
    clear hL hl
    go_wp2_with fail
    go_loopw [7, 41] (fun s t wr => ∃ k : Nat, t = .int .i64 (k : Int) ∧ s = .int .i64 (hamN fx fy k : Nat) ∧ k ≤ L ∧ Below wm.heap.size wm wr) (fun _ t _ => L - (intOf t).toNat)
    case atStart => exact ⟨0, rfl, rfl, by omega, Below.refl _ _⟩
    case round =>
      obtain ⟨k, rfl, rfl, hk, hbr⟩ := hrel
      have BR := Lib.hid hbr
      have hsz := hbr.size
      clear hbr
      have hle := hamN_le fx fy k
      by_cases hkn : k < L
      · have h3 : (k : Int) < (L : Int) := by omega
        have h00 : (0 : Int) ≤ (k : Int) := by omega
        obtain ⟨ga, oa, rfl, hga, hca⟩ := (HX.out.below BR.out (Nat.le_refl _)) (by omega)
        obtain ⟨gb, ob, rfl, hgb, hcb⟩ := (HY.out.below BR.out (Nat.le_refl _)) (by omega)
        have qa := hca k hkn
        have qb := hcb k hkn
        have qga : ga < wr.heap.size := by omega
        have qgb : gb < wr.heap.size := by omega
        have HN : Hid (hamN fx fy (k + 1) = hamN fx fy k + (if fx k = fy k then 0 else 1)) := Lib.hid rfl
        generalize hh : hamN fx fy k = h at *
        clear hca hcb
        cases hfe : (fx k == fy k)
        · have HM2 : Hid (hamN fx fy (k + 1) = h + 1) := Lib.hid (by rw [HN.out, if_neg (by simpa using hfe)])
          clear HN hh
          go_wp2_with fail
          refine Reg.wp_region_rd (by kernel_rfl) (by kernel_rfl) (fun _ => ?_)
          repeat (refine Reg.rd_op rfl ?_; apply Exists.intro; apply And.intro; (intro w' hb; have hc := Reg.rd_cells hb; clear hb; go_simp; (try go_bits); first | done | (with_reducible exact rfl)); (intro _ a' ha'; simp only [Act.put, List.setIfInBounds_toArray, List.set_cons_zero, List.set_cons_succ] at ha'; subst ha'))
          refine Reg.rd_end (fun wz hb => ?_)
          have BR2 := Lib.hid (BR.out.trans (hb.mono hsz))
          clear hb
          go_wp2_with fail
          go_roundw
          case rel => exact ⟨k + 1, by go_num, by rw [HM2.out]; go_num, by omega, BR2.out⟩
          case measure => (simp [intOf] <;> omega)
        · have HM2 : Hid (hamN fx fy (k + 1) = h) := Lib.hid (by rw [HN.out, if_pos (by simpa using hfe)]; rfl)
          clear HN hh
          go_wp2_with fail
          refine Reg.wp_region_rd (by kernel_rfl) (by kernel_rfl) (fun _ => ?_)
          repeat (refine Reg.rd_op rfl ?_; apply Exists.intro; apply And.intro; (intro w' hb; have hc := Reg.rd_cells hb; clear hb; go_simp; (try go_bits); first | done | (with_reducible exact rfl)); (intro _ a' ha'; simp only [Act.put, List.setIfInBounds_toArray, List.set_cons_zero, List.set_cons_succ] at ha'; subst ha'))
          refine Reg.rd_end (fun wz hb => ?_)
          have BR2 := Lib.hid (BR.out.trans (hb.mono hsz))
          clear hb
          go_wp2_with fail
          go_roundw
          case rel => exact ⟨k + 1, by go_num, by rw [HM2.out], by omega, BR2.out⟩
          case measure => (simp [intOf] <;> omega)
      · obtain rfl : k = L := by omega
        have h3 : ¬ (k : Int) < (k : Int) := by omega
        have FH := Lib.hid ((floatInt_fl (hamN fx fy k)).trans HT.out)
        clear HT
        generalize hamN fx fy k = h at *
        have f1 := FN.out; have f2 := FM.out; have f3 := FL.out; have f4 := FH.out
        go_wp2_with fail
        go_ret
        refine ⟨_, rfl, ja_eq _ _ _ _ _ _ _ _ _ _ _ _, ?_⟩
        repeat refine wIf_below _ _ ?_
        exact BW.out.trans (BR.out.mono BW.out.size)
end Go.Proofs.Ytkhdemaanakbeaa
