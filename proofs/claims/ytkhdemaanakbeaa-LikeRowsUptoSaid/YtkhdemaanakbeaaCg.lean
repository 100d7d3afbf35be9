/- The longest row that stands in both: like.Common. Condition: the names are not too long. -/
import Derived.Test.YtkhdemaanakbeaaCi
import Derived.Test.YtkhdemaanakbeaaLr
namespace Go.Proofs.Ytkhdemaanakbeaa
open Go.RowKit Go.Pst
set_option maxRecDepth 100000
set_option linter.unusedSimpArgs false
set_option linter.unusedVariables false

theorem infoRowI : (Try.prog.info? 103).map (fun i => (i.zero, i.size, i.bytes)) = some (some (.slice none 0 0), 1, 24) := by kernel_rfl
theorem infoI32 : (Try.prog.info? 21).map (fun i => (i.zero, i.size, i.bytes)) = some (some (.int .i32 0), 1, 4) := by kernel_rfl
theorem infoInt : (Try.prog.info? 3).map (fun i => (i.zero, i.size, i.bytes)) = some (some (.int .i64 0), 1, 8) := by kernel_rfl

/-- The numbers so far: the rows behind i, and of it those from j on. -/
def partI (T : Nat → Nat → Nat) (i j r k : Nat) : Int := if i < r ∨ r = i ∧ j ≤ k then (T r k : Int) else 0

/-- A name of n letters: the list that is made. -/
def CommonPost (l : List Int) (w : World) (en : Ending) (w' : World) : Prop :=
  ∃ v, en = .returned (.tuple #[v, .int .i64 0]) ∧ w'.ownsRow w.heap.size 21 1 v l.length (l.map fun x => .int .i32 x) ∧ Below w.heap.size w w'

set_option maxHeartbeats 8000000 in
theorem common_any (n m c d : Nat) (A B : Option Addr) (fa fb : Nat → Int) (w : World) (hA : NameAt w w.heap.size A n fa) (hB : NameAt w w.heap.size B m fb)
    (hn : n ≤ 1048576) (hm : m ≤ 1048576) (hw : wideB n m = false) :
    Calls Try.prog 30 #[.slice A n c, .slice B m d] w (CommonPost (cm n m fa fb 0 0) w) := by
  have hq := wide_div n m
  rw [hw] at hq
  have hq0 : (0 : Int) ≤ (4194304 : Int) / ((m : Int) + 1) := Int.ediv_nonneg (by omega) (by omega)
  have hq1 : (4194304 : Int) / ((m : Int) + 1) ≤ 4194304 := Int.ediv_le_self _ (by omega)
  obtain ⟨q, hqe⟩ : ∃ q : Int, q = (4194304 : Int) / ((m : Int) + 1) := ⟨_, rfl⟩
  rw [← hqe] at hq hq0 hq1
  have hqe' := hqe.symm
  clear hqe
  have h1 : ¬ q < (n : Int) + 1 := by simpa using hq
  clear hq
  have mk1 := run_make_row' (P := Try.prog) 102 103 (.slice none 0 0) 24 Try.underlying102 infoRowI rfl .i64 .i64 (n + 1) (by omega) (by omega)
  have mk2 := run_make_row' (P := Try.prog) 103 3 (.int .i64 0) 8 Try.underlying103 infoInt rfl .i64 .i64 (m + 1) (by omega) (by omega)
  rw [show ((n + 1 : Nat) : Int) = (n : Int) + 1 by omega] at mk1
  rw [show ((m + 1 : Nat) : Int) = (m : Int) + 1 by omega] at mk2
  obtain ⟨j0, hj0, hy0, hy1, hy2⟩ := info_parts infoI32
  have J0 := Lib.hid hj0; have J1 := Lib.hid hy0; have J2 := Lib.hid hy1; have J3 := Lib.hid hy2
  clear hj0 hy0 hy1 hy2
  have HA := Lib.hid hA; have HB := Lib.hid hB
  have HT := Lib.hid (fun i j (hi : i < n) (hj : j < m) => lc_in (n := n) (m := m) (a := fa) (b := fb) hi hj)
  have HT0 := Lib.hid (fun i j (h : ¬ (i < n ∧ j < m)) => lc_out (a := fa) (b := fb) h)
  have HLE := Lib.hid (fun i j => Nat.le_trans (lc_n (n := n) (m := m) (a := fa) (b := fb) (i := i) (j := j)) (show n - i ≤ 1048576 by omega))
  have HTK := Lib.hid (fun i j q hi hq h1 h2 => cm_take (n := n) (m := m) (a := fa) (b := fb) (i := i) (j := j) (q := q) hi hq h1 h2)
  have HSK := Lib.hid (fun i j hi h => cm_skip (n := n) (m := m) (a := fa) (b := fb) (i := i) (j := j) hi h)
  have HCZ := Lib.hid (fun i j h => cm_zero (n := n) (m := m) (a := fa) (b := fb) _ i j (Nat.le_refl _) h)
  have HCO := Lib.hid (fun i j h => cm_out (n := n) (m := m) (a := fa) (b := fb) (i := i) (j := j) h)
  generalize hTT : lc n m fa fb = T at *
  generalize hCC : cm n m fa fb = K at *
  clear hA hB hw
  go_enter Try.func30, Try.ntmps30
  go_wp2_with fail
  have MK2 := Lib.hid mk2; clear mk1 mk2
  -- the table: i rows from the end
  go_loopw [7] (fun t wr => ∃ (i : Nat) (R C : Nat → Nat), t = .int .i64 ((i : Int) - 1) ∧ i ≤ n + 1 ∧ IG wr w.heap.size w.heap.size (n + 1) (m + 1) i R C (fun r k => (T r k : Int)) ∧ Below w.heap.size w wr) (fun t _ => (intOf t + 1).toNat)
  case atStart =>
    refine ⟨n + 1, fun _ => 0, fun _ => 0, by go_num, by omega, IG.start _ _ _ _ _ _ _ _ (Nat.le_refl _), (Below.refl _ _).alloc (Nat.le_refl _) _⟩
  case round =>
    obtain ⟨i, R, C, rfl, hi1, g, hbw⟩ := hrel
    have G := Lib.hid g; have BW := Lib.hid hbw
    clear g hbw
    have z1 := G.out.dlt
    rcases i with _ | i
    · have e : ((0 : Nat) : Int) - 1 = -1 := rfl
      rw [e]
      clear e
      obtain ⟨Bs, hBs⟩ : ∃ Bs, Bs = wr.heap.size := ⟨_, rfl⟩
      have RL := Lib.hid (fun r h => show R r < Bs from by have := (G.out.rlt r (Nat.zero_le _) h).2.2; omega)
      have BL : w.heap.size < Bs := by omega
      have HBS := Lib.hid hBs
      clear hBs MK2
      go_wp2_with fail
      obtain ⟨wo, rfl⟩ : ∃ wo : World, wo = wr := ⟨_, rfl⟩
      go_loopw [9, 10, 11] (fun dv t u wr => ∃ (i j : Nat) (out : List Int) (v : Value), t = .int .i64 i ∧ u = .int .i64 j ∧ i ≤ n ∧ j ≤ m ∧ v = dv ∧ wr.ownsRow Bs 21 1 v out.length (out.map fun x => .int .i32 x) ∧ out.length ≤ i ∧ out ++ K i j = K 0 0 ∧
          IG wr w.heap.size w.heap.size (n + 1) (m + 1) 0 R C (fun r k => (T r k : Int)) ∧ Below w.heap.size w wr ∧ Bs ≤ wr.heap.size) (fun _ t _ _ => n - (intOf t).toNat)
      case atStart => exact ⟨0, 0, [], _, rfl, rfl, by omega, by omega, rfl, World.ownsRow_nil _ _ _ _, by simp, rfl, G.out, BW.out, by rw [HBS.out]; exact Nat.le_refl _⟩
      case round =>
        clear G BW HBS z1
        as_aux_lemma =>
          obtain ⟨i, j, out, v, rfl, rfl, hi1, hj1, rfl, hown, hol, hout, hg, hbw, hsz⟩ := hrel
          have OW := Lib.hid hown; have HO := Lib.hid hout; have G := Lib.hid hg; have BW := Lib.hid hbw
          clear hown hout hg hbw
          by_cases hi : i < n
          · have h3 : (i : Int) < (n : Int) := by omega
            have z5 := G.out.dlt
            have rI := G.out.rlt i (by omega) (by omega)
            have dI := G.out.done i (by omega) (by omega)
            have c00 := G.out.cell i j (by omega) (by omega) (by omega)
            have h6 : (i : Int) < (n : Int) + 1 := by omega
            have h7 : (j : Int) < (m : Int) + 1 := by omega
            by_cases ht0 : T i j = 0
            · rw [ht0] at c00
              have HKZ := Lib.hid (HCZ.out i j ht0)
              clear ht0
              go_wp2_with fail
              go_ret2
              refine ⟨v, rfl, ?_, BW.out⟩
              have e : out = K 0 0 := by rw [← HO.out, HKZ.out]; simp
              rw [← e]
              exact own_less OW.out (by omega)
            · have ht1 : 0 < T i j := by omega
              have ht2 := HLE.out i j
              obtain ⟨x00, e00⟩ : ∃ x, x = T i j := ⟨_, rfl⟩
              rw [← e00] at c00 ht1 ht2
              have E00 := Lib.hid e00
              clear e00 ht0
              have HI := Lib.hid hi
              go_wp2_with fail
              clear c00 dI rI z5
              obtain ⟨w4, rfl⟩ : ∃ w4 : World, w4 = wr := ⟨_, rfl⟩
              go_loopw [12] (fun t wr => ∃ q : Nat, t = .int .i64 q ∧ j ≤ q ∧ q ≤ m ∧ (∀ k, j ≤ k → k < q → fa i ≠ fb k) ∧ Below w4.heap.size w4 wr) (fun t _ => m - (intOf t).toNat)
              case atStart => exact ⟨j, rfl, Nat.le_refl _, hj1, fun k h1 h2 => by omega, Below.refl _ _⟩
              case round =>
                obtain ⟨q, rfl, hq1, hq2, hno, hbq⟩ := hrel
                have NO := Lib.hid hno
                have G4 := Lib.hid (G.out.below hbq); have OW4 := Lib.hid (own_below OW.out hbq); have BW4 := Lib.hid (BW.out.trans (hbq.mono BW.out.size))
                have BQ := Lib.hid hbq
                have hsz4 : Bs ≤ wr.heap.size := Nat.le_trans hsz hbq.size
                clear hno hbq
                obtain ⟨a1, o1, rfl, ha1, ha2⟩ := (HA.out.below BW4.out (Nat.le_refl _)) (by omega)
                have ha3 : a1 < wr.heap.size := by omega
                have qa := ha2 i HI.out
                clear ha2
                by_cases hq : q < m
                · obtain ⟨b1, p1, rfl, hb1, hb2⟩ := (HB.out.below BW4.out (Nat.le_refl _)) (by omega)
                  have hb3 : b1 < wr.heap.size := by omega
                  have qb := hb2 q hq
                  clear hb2
                  have h5 : (q : Int) < (m : Int) := by omega
                  have HQ := Lib.hid hq
                  clear hq
                  by_cases he : fb q = fa i
                  · have HS := HSK.out i j HI.out
                    have HM := HTK.out i j q HI.out (first_at hq1 HQ.out he.symm NO.out) HQ.out
                    rw [first_at hq1 HQ.out he.symm NO.out] at HS
                    have HM' := Lib.hid HM; have HS' := Lib.hid HS
                    clear HM HS
                    go_wp2_with fail
                    refine Reg.wp_region_rd (by kernel_rfl) (by kernel_rfl) (fun _ => ?_)
                    repeat (refine Reg.rd_op rfl ?_; apply Exists.intro; apply And.intro; (intro w' hb; have hc := Reg.rd_cells hb; clear hb; go_simp; (try go_bits); first | done | (with_reducible exact rfl)); (intro _ a' ha'; simp only [Act.put, List.setIfInBounds_toArray, List.set_cons_zero, List.set_cons_succ] at ha'; subst ha'))
                    refine Reg.rd_end (fun wz hb => ?_)
                    have G5 := Lib.hid (G4.out.below hb); have OW5 := Lib.hid (own_below OW4.out hb); have BW5 := Lib.hid (BW4.out.trans (hb.mono BW4.out.size))
                    have hsz5 : Bs ≤ wz.heap.size := Nat.le_trans hsz4 hb.size
                    have ha4 : a1 < wz.heap.size := Nat.lt_of_lt_of_le ha3 hb.size
                    have hb4 : b1 < wz.heap.size := Nat.lt_of_lt_of_le hb3 hb.size
                    clear hb qa qb he G4 OW4 BW4 G OW BW BQ ha1 hb1
                    have z5 := G5.out.dlt
                    have rI := G5.out.rlt i (by omega) (by omega)
                    have rP := G5.out.rlt (i + 1) (by omega) (by omega)
                    have dI := G5.out.done i (by omega) (by omega)
                    have dP := G5.out.done (i + 1) (by omega) (by omega)
                    have c00 := G5.out.cell i j (by omega) (by omega) (by omega)
                    have c11 := G5.out.cell (i + 1) (q + 1) (by omega) (by omega) (by omega)
                    have b11 := HLE.out (i + 1) (q + 1)
                    obtain ⟨x11, e11⟩ : ∃ x, x = T (i + 1) (q + 1) := ⟨_, rfl⟩
                    rw [← e11] at c11 b11
                    rw [← E00.out] at c00
                    have E11 := Lib.hid e11
                    clear e11
                    have k1 : (i : Int) + 1 < (n : Int) + 1 := by omega
                    have k2 : (q : Int) + 1 < (m : Int) + 1 := by omega
                    have k3 : (0 : Int) ≤ (i : Int) + 1 := by omega
                    have k4 : (0 : Int) ≤ (q : Int) + 1 := by omega
                    by_cases hx : (x11 : Int) + 1 = (x00 : Int)
                    · have KK := Lib.hid (HM'.out (by rw [← E11.out, ← E00.out]; omega))
                      go_wp2_with fail
                      refine Reg.wp_region_rd (by kernel_rfl) (by kernel_rfl) (fun _ => ?_)
                      repeat (refine Reg.rd_op rfl ?_; apply Exists.intro; apply And.intro; (intro w' hb; have hc := Reg.rd_cells hb; clear hb; go_simp; (try go_bits); first | done | (with_reducible exact rfl)); (intro _ a' ha'; simp only [Act.put, List.setIfInBounds_toArray, List.set_cons_zero, List.set_cons_succ] at ha'; subst ha'))
                      refine Reg.rd_end (fun wz hb => ?_)
                      have G6 := Lib.hid (G5.out.below hb); have OW6 := Lib.hid (own_below OW5.out hb); have BW6 := Lib.hid (BW5.out.trans (hb.mono BW5.out.size))
                      have hsz6 := Nat.le_trans hsz5 hb.size
                      have ha5 : a1 < wz.heap.size := Nat.lt_of_lt_of_le ha4 hb.size
                      clear hb G5 OW5 BW5 dI dP c00 c11 rI rP z5
                      obtain ⟨_, _, e, _, ha2⟩ := (HA.out.below BW6.out (Nat.le_refl _)) (by omega)
                      cases e
                      have qa := ha2 i HI.out
                      clear ha2
                      go_wp2_with (at_builtin
                                   refine wpList_append_lies _ rfl _ _ _ rfl Bs 21 j0 _ 1 4 Try.underlying22 J0.out J1.out J2.out J3.out rfl (by omega) v out.length (out.map fun x => .int .i32 x) rfl (OW6.out.alloc _) ⟨wz.heap.size, 0, none⟩ 1 1 [.int .i32 (fa i)] rfl rfl (World.news_of_block (heap_alloc_new _ _)) (by simp [Value.oneCell']) (by omega) (by unfold maxLen; omega) (by omega) (by simp; omega) (wz.heap.size + 1) (by simp) ?_
                                   intro g' cap' w1 hown1 hgrow hat hlt
                                   have ORN := Lib.hid hown1
                                   have HGR := Lib.hid hgrow
                                   clear hown1 hgrow hat)
                      have hal := (Below.refl wz.heap.size wz).alloc (Nat.le_refl _) (.cells #[.int .i32 (fa i)] 21)
                      have hrl := OW6.out.lt
                      have GN := Lib.hid ((G6.out.below hal).grown HGR.out (fun e => by have h2 := (hrl _ e).1; omega) (fun r _ hr e => by
                        have h2 := (hrl _ e).1
                        have h3 := RL.out r hr
                        omega))
                      have BWN := Lib.hid ((BW6.out.trans (hal.mono BW6.out.size)).grown HGR.out (by simp; omega) (fun q e => by have h2 := (hrl _ e).1; omega))
                      have SZN : Bs ≤ w1.heap.size := by have := HGR.out.size; simp at this; omega
                      have OWN : Hid (w1.ownsRow Bs 21 1 (.slice (some ⟨g', 0, none⟩) (out.length + 1) cap') (out ++ [fa i]).length ((out ++ [fa i]).map fun x => .int .i32 x)) := Lib.hid (by
                        have h := ORN.out
                        simpa using h)
                      clear hal hrl qa ORN G6 OW6 BW6
                      go_wp2_with fail
                      go_roundw
                      case rel => exact ⟨i + 1, q + 1, out ++ [fa i], _, by go_num, by go_num, by omega, by omega, rfl, OWN.out, by simp; omega, by have h := HO.out; rw [KK.out] at h; simpa using h, GN.out, BWN.out, SZN⟩
                      case measure => (simp [intOf] <;> omega)
                    · have KK := Lib.hid (HS'.out (fun e => by have h := e.2; rw [← E11.out, ← E00.out] at h; omega))
                      go_wp2_with fail
                      refine Reg.wp_region_rd (by kernel_rfl) (by kernel_rfl) (fun _ => ?_)
                      repeat (refine Reg.rd_op rfl ?_; apply Exists.intro; apply And.intro; (intro w' hb; have hc := Reg.rd_cells hb; clear hb; go_simp; (try go_bits); first | done | (with_reducible exact rfl)); (intro _ a' ha'; simp only [Act.put, List.setIfInBounds_toArray, List.set_cons_zero, List.set_cons_succ] at ha'; subst ha'))
                      refine Reg.rd_end (fun wz hb => ?_)
                      have G6 := Lib.hid (G5.out.below hb); have OW6 := Lib.hid (own_below OW5.out hb); have BW6 := Lib.hid (BW5.out.trans (hb.mono BW5.out.size))
                      have hsz6 := Nat.le_trans hsz5 hb.size
                      go_wp2_with fail
                      go_roundw
                      case rel => exact ⟨i + 1, j, out, v, by go_num, rfl, by omega, hj1, rfl, OW6.out, by omega, by rw [← KK.out]; exact HO.out, G6.out, BW6.out, hsz6⟩
                      case measure => (simp [intOf] <;> omega)
                  · have HN : Hid (∀ k, j ≤ k → k < q + 1 → fa i ≠ fb k) := Lib.hid (fun k h1 h2 => by
                      by_cases hk : k = q
                      · rw [hk]; exact Ne.symm he
                      · exact NO.out k h1 (by omega))
                    go_wp2_with fail
                    refine Reg.wp_region_rd (by kernel_rfl) (by kernel_rfl) (fun _ => ?_)
                    repeat (refine Reg.rd_op rfl ?_; apply Exists.intro; apply And.intro; (intro w' hb; have hc := Reg.rd_cells hb; clear hb; go_simp; (try go_bits); first | done | (with_reducible exact rfl)); (intro _ a' ha'; simp only [Act.put, List.setIfInBounds_toArray, List.set_cons_zero, List.set_cons_succ] at ha'; subst ha'))
                    refine Reg.rd_end (fun wz hb => ?_)
                    have BQ5 := Lib.hid (BQ.out.trans (hb.mono BQ.out.size))
                    clear hb qa qb
                    go_wp2_with fail
                    go_roundw
                    case rel => exact ⟨q + 1, by go_num, by omega, by omega, HN.out, BQ5.out⟩
                    case measure => (simp [intOf] <;> omega)
                · obtain rfl : q = m := by omega
                  have KK := Lib.hid (HSK.out i j HI.out (fun e => by rw [first_no hq1 NO.out] at e; omega))
                  go_wp2_with fail
                  refine Reg.wp_region_rd (by kernel_rfl) (by kernel_rfl) (fun _ => ?_)
                  repeat (refine Reg.rd_op rfl ?_; apply Exists.intro; apply And.intro; (intro w' hb; have hc := Reg.rd_cells hb; clear hb; go_simp; (try go_bits); first | done | (with_reducible exact rfl)); (intro _ a' ha'; simp only [Act.put, List.setIfInBounds_toArray, List.set_cons_zero, List.set_cons_succ] at ha'; subst ha'))
                  repeat (refine Reg.rd_skip rfl ?_; intro a' ha'; simp only [Act.put, List.setIfInBounds_toArray, List.set_cons_zero, List.set_cons_succ] at ha'; subst ha')
                  repeat (refine Reg.rd_op rfl ?_; apply Exists.intro; apply And.intro; (intro w' hb; have hc := Reg.rd_cells hb; clear hb; go_simp; (try go_bits); first | done | (with_reducible exact rfl)); (intro _ a' ha'; simp only [Act.put, List.setIfInBounds_toArray, List.set_cons_zero, List.set_cons_succ] at ha'; subst ha'))
                  refine Reg.rd_end (fun wz hb => ?_)
                  have G5 := Lib.hid (G4.out.below hb); have OW5 := Lib.hid (own_below OW4.out hb); have BW5 := Lib.hid (BW4.out.trans (hb.mono BW4.out.size))
                  have hsz5 := Nat.le_trans hsz4 hb.size
                  clear hb qa
                  go_wp2_with fail
                  refine Reg.wp_region_rd (by kernel_rfl) (by kernel_rfl) (fun _ => ?_)
                  repeat (refine Reg.rd_op rfl ?_; apply Exists.intro; apply And.intro; (intro w' hb; have hc := Reg.rd_cells hb; clear hb; go_simp; (try go_bits); first | done | (with_reducible exact rfl)); (intro _ a' ha'; simp only [Act.put, List.setIfInBounds_toArray, List.set_cons_zero, List.set_cons_succ] at ha'; subst ha'))
                  repeat (refine Reg.rd_skip rfl ?_; intro a' ha'; simp only [Act.put, List.setIfInBounds_toArray, List.set_cons_zero, List.set_cons_succ] at ha'; subst ha')
                  repeat (refine Reg.rd_op rfl ?_; apply Exists.intro; apply And.intro; (intro w' hb; have hc := Reg.rd_cells hb; clear hb; go_simp; (try go_bits); first | done | (with_reducible exact rfl)); (intro _ a' ha'; simp only [Act.put, List.setIfInBounds_toArray, List.set_cons_zero, List.set_cons_succ] at ha'; subst ha'))
                  refine Reg.rd_end (fun wz hb => ?_)
                  have G6 := Lib.hid (G5.out.below hb); have OW6 := Lib.hid (own_below OW5.out hb); have BW6 := Lib.hid (BW5.out.trans (hb.mono BW5.out.size))
                  have hsz6 := Nat.le_trans hsz5 hb.size
                  clear hb
                  go_wp2_with fail
                  go_roundw
                  case rel => exact ⟨i + 1, j, out, v, by go_num, rfl, by omega, hj1, rfl, OW6.out, by omega, by rw [← KK.out]; exact HO.out, G6.out, BW6.out, hsz6⟩
                  case measure => (simp [intOf] <;> omega)
          · have hi' : ¬ (i : Int) < (n : Int) := by omega
            have HKO := Lib.hid (HCO.out i j hi)
            go_wp2_with fail
            go_ret2
            refine ⟨v, rfl, ?_, BW.out⟩
            have e : out = K 0 0 := by rw [← HO.out, HKO.out]; simp
            rw [← e]
            exact own_less OW.out (by omega)
    · have e : ((i + 1 : Nat) : Int) - 1 = (i : Int) := by omega
      rw [e]
      have q1 := G.out.todo i (by omega)
      have q2 := G.out.dfr i
      have h3 : (i : Int) < (n : Int) + 1 := by omega
      have mk2 := MK2.out
      go_wp2_with fail
      have G1 := Lib.hid ((G.out.row (by omega) 3).congr (G' := partI T i m) (fun r k h1 h2 h3 => by
        unfold partI
        by_cases hri : r = i
        · rw [if_pos hri]
          split
          · obtain rfl : k = m := by omega
            rw [HT0.out r k (by omega)]; rfl
          · rfl
        · rw [if_neg hri, if_pos (by omega)]))
      have BW1 := Lib.hid ((BW.out.alloc BW.out.size (.cells (madeCells #[.int .i64 0] (m + 1)) 3)).setCell (p := ⟨w.heap.size, i, none⟩) (by simp) (.slice (some ⟨wr.heap.size, 0, none⟩) (m + 1) (m + 1)))
      obtain ⟨R1, hR1⟩ : ∃ R1, R1 = (fun r => if r = i then wr.heap.size else R r) := ⟨_, rfl⟩
      obtain ⟨C1, hC1⟩ : ∃ C1, C1 = (fun r => if r = i then m + 1 else C r) := ⟨_, rfl⟩
      rw [← hR1, ← hC1, World.setCell_alloc_past _ _ _ _ z1] at G1
      rw [World.setCell_alloc_past _ _ _ _ z1] at BW1
      clear mk2 q1 q2 hR1 hC1 e
      obtain ⟨wo, rfl⟩ : ∃ wo : World, wo = wr := ⟨_, rfl⟩
      go_loopw [8] (fun t wr => ∃ (j : Nat), t = .int .i64 ((j : Int) - 1) ∧ j ≤ m ∧ (i = n → j = m) ∧ IG wr w.heap.size w.heap.size (n + 1) (m + 1) i R1 C1 (partI T i j) ∧ Below w.heap.size w wr) (fun t _ => (intOf t + 1).toNat)
      case atStart => exact ⟨m, by go_num, by omega, fun _ => rfl, G1.out, BW1.out⟩
      case round =>
        obtain ⟨j, rfl, hj1, hjn, g, hbw⟩ := hrel
        clear G1 BW1
        have G1 := Lib.hid g; have BW1 := Lib.hid hbw
        clear g hbw
        have z3 := G1.out.dlt
        rcases j with _ | j
        · have G3 := Lib.hid (G1.out.congr (G' := fun r k => (T r k : Int)) (fun r k h1 h2 h3 => by unfold partI; rw [if_pos (by omega)]))
          have e : ((0 : Nat) : Int) - 1 = -1 := rfl
          rw [e]
          clear G1 G e
          go_wp2_with fail
          go_roundw
          case rel => exact ⟨i, R1, C1, by go_num, by omega, G3.out, BW1.out⟩
          case measure => (simp [intOf] <;> omega)
        · have e : ((j + 1 : Nat) : Int) - 1 = (j : Int) := by omega
          rw [e]
          have hj0 : (0 : Int) ≤ (j : Int) := by omega
          by_cases hin : i < n
          ·
            as_aux_lemma =>
              have h4 : (i : Int) < (n : Int) := by omega
              have hi0 : (0 : Int) ≤ (i : Int) := by omega
              obtain ⟨a1, o1, rfl, ha1, ha2⟩ := (HA.out.below BW1.out (Nat.le_refl _)) (by omega)
              obtain ⟨b1, p1, rfl, hb1, hb2⟩ := (HB.out.below BW1.out (Nat.le_refl _)) (by omega)
              have qa := ha2 i hin
              have z4 := BW1.out.size
              have ha3 : a1 < wr.heap.size := by omega
              have hb3 : b1 < wr.heap.size := by omega
              have qb := hb2 j (by omega)
              have h5 : (j : Int) < (m : Int) := by omega
              clear ha2 hb2
              go_wp2_with fail
              refine Reg.wp_region_rd (by kernel_rfl) (by kernel_rfl) (fun _ => ?_)
              repeat (refine Reg.rd_op rfl ?_; apply Exists.intro; apply And.intro; (intro w' hb; have hc := Reg.rd_cells hb; clear hb; go_simp; (try go_bits); first | done | (with_reducible exact rfl)); (intro _ a' ha'; simp only [Act.put, List.setIfInBounds_toArray, List.set_cons_zero, List.set_cons_succ] at ha'; subst ha'))
              refine Reg.rd_end (fun wz hb => ?_)
              have G2 := Lib.hid (G1.out.below hb)
              have BW2 := Lib.hid (BW1.out.trans (hb.mono BW1.out.size))
              clear hb qa qb
              have z5 := G2.out.dlt
              have rI := G2.out.rlt i (by omega) (by omega)
              have rP := G2.out.rlt (i + 1) (by omega) (by omega)
              have dI := G2.out.done i (by omega) (by omega)
              have dP := G2.out.done (i + 1) (by omega) (by omega)
              have hRR := G2.out.inj i (i + 1) (by omega) (by omega) (by omega) (by omega) (by omega)
              have fr := G2.out.rfr i j (by omega) (by omega)
              have c00 := G2.out.cell i j (by omega) (by omega) (by omega)
              have c01 := G2.out.cell i (j + 1) (by omega) (by omega) (by omega)
              have c10 := G2.out.cell (i + 1) j (by omega) (by omega) (by omega)
              have c11 := G2.out.cell (i + 1) (j + 1) (by omega) (by omega) (by omega)
              rw [show partI T i (j + 1) i j = 0 by unfold partI; rw [if_neg (by omega)]] at c00
              rw [show partI T i (j + 1) i (j + 1) = (T i (j + 1) : Int) by unfold partI; rw [if_pos (by omega)]] at c01
              rw [show partI T i (j + 1) (i + 1) j = (T (i + 1) j : Int) by unfold partI; rw [if_pos (by omega)]] at c10
              rw [show partI T i (j + 1) (i + 1) (j + 1) = (T (i + 1) (j + 1) : Int) by unfold partI; rw [if_pos (by omega)]] at c11
              have h6 : (i : Int) < (n : Int) + 1 := by omega
              have h7 : (j : Int) < (m : Int) + 1 := by omega
              have b11 := HLE.out (i + 1) (j + 1)
              obtain ⟨x01, e01⟩ : ∃ x, x = T i (j + 1) := ⟨_, rfl⟩
              obtain ⟨x10, e10⟩ : ∃ x, x = T (i + 1) j := ⟨_, rfl⟩
              obtain ⟨x11, e11⟩ : ∃ x, x = T (i + 1) (j + 1) := ⟨_, rfl⟩
              rw [← e01] at c01
              rw [← e10] at c10
              rw [← e11] at c11 b11
              have E01 := Lib.hid e01; have E10 := Lib.hid e10; have E11 := Lib.hid e11
              have k1 : (i : Int) + 1 < (n : Int) + 1 := by omega
              have k2 : (j : Int) + 1 < (m : Int) + 1 := by omega
              have k3 : (0 : Int) ≤ (i : Int) + 1 := by omega
              have k4 : (0 : Int) ≤ (j : Int) + 1 := by omega
              obtain ⟨b1', rfl⟩ : ∃ k : Nat, k = b1 := ⟨_, rfl⟩
              clear e01 e10 e11 ha1 hb1
              have HIN := Lib.hid hin
              by_cases hab : fa i = fb j
              ·
                as_aux_lemma =>
                  have HTI := Lib.hid (show T i j = max (x11 + 1) (max x10 x01) by
                    have h := HT.out i j hin (by omega)
                    rw [if_pos hab, ← E01.out, ← E10.out, ← E11.out] at h
                    exact h)
                  go_wp2_with fail
                  go_big_region
                  have GA := Lib.hid ((G2.out.set (r0 := i) (j0 := j) (x := (x11 : Int) + 1) (G' := fun r k => if r = i ∧ k = j then (x11 : Int) + 1 else partI T i (j + 1) r k) (by omega) (by omega) (by omega) (fun r k h1 h2 h3 => rfl)).below (Below.refl _ _).drew)
                  have BWA := Lib.hid ((BW2.out.setCell (p := ⟨R1 i, j, none⟩) (by show w.heap.size ≤ R1 i; omega) (.int .i64 ((x11 : Int) + 1))).drew)
                  generalize hwy : (wz.setCell ⟨R1 i, j, none⟩ (.int .i64 ((x11 : Int) + 1))).drew = wy at GA BWA ⊢
                  clear dI dP c00 c01 c10 c11 fr z5 rI rP hwy
                  have z5 := GA.out.dlt
                  have rI := GA.out.rlt i (by omega) (by omega)
                  have rP := GA.out.rlt (i + 1) (by omega) (by omega)
                  have dI := GA.out.done i (by omega) (by omega)
                  have dP := GA.out.done (i + 1) (by omega) (by omega)
                  have fr := GA.out.rfr i j (by omega) (by omega)
                  have c00 := GA.out.cell i j (by omega) (by omega) (by omega)
                  have c01 := GA.out.cell i (j + 1) (by omega) (by omega) (by omega)
                  have c10 := GA.out.cell (i + 1) j (by omega) (by omega) (by omega)
                  rw [if_pos ⟨rfl, rfl⟩] at c00
                  rw [if_neg (by omega), show partI T i (j + 1) i (j + 1) = (T i (j + 1) : Int) by unfold partI; rw [if_pos (by omega)], ← E01.out] at c01
                  rw [if_neg (by omega), show partI T i (j + 1) (i + 1) j = (T (i + 1) j : Int) by unfold partI; rw [if_pos (by omega)], ← E10.out] at c10
                  go_wp2_with fail
                  go_big_region
                  rw [show (if (if (x11 : Int) + 1 < (x10 : Int) then (x10 : Int) else (x11 : Int) + 1) < (x01 : Int) then (x01 : Int) else if (x11 : Int) + 1 < (x10 : Int) then (x10 : Int) else (x11 : Int) + 1) = ((T i j : Nat) : Int) from by
                    have h := HTI.out
                    (repeat' split) <;> omega]
                  have G3 := Lib.hid ((GA.out.set (r0 := i) (j0 := j) (x := ((T i j : Nat) : Int)) (G' := partI T i j) (by omega) (by omega) (by omega) (fun r k h1 h2 h3 => by
                    unfold partI
                    by_cases hrk : r = i ∧ k = j
                    · rw [if_pos hrk, if_pos (by omega), hrk.1, hrk.2]
                    · rw [if_neg hrk, if_neg hrk]
                      by_cases hrk2 : i < r ∨ r = i ∧ j + 1 ≤ k
                      · rw [if_pos (by omega), if_pos hrk2]
                      · rw [if_neg (by omega), if_neg hrk2])).below (Below.refl _ _).drew)
                  have BW3 := Lib.hid ((BWA.out.setCell (p := ⟨R1 i, j, none⟩) (by show w.heap.size ≤ R1 i; omega) (.int .i64 ((T i j : Nat) : Int))).drew)
                  go_wp2_with fail
                  go_roundw
                  case rel => exact ⟨j, by go_num, by omega, fun h => absurd HIN.out (by omega), G3.out, BW3.out⟩
                  case measure => (simp [intOf] <;> omega)
              ·
                as_aux_lemma =>
                  have HTI := Lib.hid (show T i j = max x10 x01 by
                    have h := HT.out i j hin (by omega)
                    rw [if_neg hab, ← E01.out, ← E10.out] at h
                    omega)
                  go_wp2_with fail
                  go_big_region
                  rw [show (if (if 0 < x10 then (x10 : Int) else 0) < (x01 : Int) then (x01 : Int) else if 0 < x10 then (x10 : Int) else 0) = ((T i j : Nat) : Int) from by
                    have h := HTI.out
                    (repeat' split) <;> omega]
                  have G3 := Lib.hid ((G2.out.set (r0 := i) (j0 := j) (x := ((T i j : Nat) : Int)) (G' := partI T i j) (by omega) (by omega) (by omega) (fun r k h1 h2 h3 => by
                    unfold partI
                    by_cases hrk : r = i ∧ k = j
                    · rw [if_pos hrk, if_pos (by omega), hrk.1, hrk.2]
                    · rw [if_neg hrk]
                      by_cases hrk2 : i < r ∨ r = i ∧ j + 1 ≤ k
                      · rw [if_pos (by omega), if_pos hrk2]
                      · rw [if_neg (by omega), if_neg hrk2])).below (Below.refl _ _).drew)
                  have BW3 := Lib.hid ((BW2.out.setCell (p := ⟨R1 i, j, none⟩) (by show w.heap.size ≤ R1 i; omega) (.int .i64 ((T i j : Nat) : Int))).drew)
                  go_wp2_with fail
                  go_roundw
                  case rel => exact ⟨j, by go_num, by omega, fun h => absurd HIN.out (by omega), G3.out, BW3.out⟩
                  case measure => (simp [intOf] <;> omega)
          · obtain rfl : i = n := by omega
            have G3 := Lib.hid (G1.out.congr (G' := fun r k => (T r k : Int)) (fun r k h1 h2 h3 => by
              unfold partI
              split
              · rfl
              · rw [HT0.out r k (by omega)]; rfl))
            clear G1 G
            go_wp2_with fail
            go_roundw
            case rel => exact ⟨i, R1, C1, by go_num, by omega, G3.out, BW1.out⟩
            case measure => (simp [intOf] <;> omega)
end Go.Proofs.Ytkhdemaanakbeaa
