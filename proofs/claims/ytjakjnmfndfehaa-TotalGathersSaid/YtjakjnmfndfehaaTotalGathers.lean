/- A Sums that is added to, asked between; two know nothing of one another: the law TotalGathers returns true for every input and leaves its lists as they were. No condition. -/
import Derived.Test.YtjakjnmfndfehaaUj
import Derived.Test.YtjakjnmfndfehaaOq
namespace Go.Proofs.Ytjakjnmfndfehaa
open Go.RowKit Go.Pst Go.ChangeShapes Go.WideShapes Go.ChangeAt Go.Joins Go.Deep
set_option maxRecDepth 20000
set_option linter.unusedSimpArgs false
set_option linter.unusedVariables false
/-- Two Sums that know nothing of one another. -/
structure TwoS (w : World) (base X Y : Nat) (vx vy : Value) (p q : Nat) (xs ys : List Value) : Prop where
  x : SumsAt w base X vx p xs
  y : SumsAt w base Y vy q ys
  xy : X ≠ Y
  xY : vx.ownBlock ≠ some Y
  yX : vy.ownBlock ≠ some X
  row : ∀ r, vx.ownBlock = some r → vy.ownBlock ≠ some r
theorem TwoS.swap {w : World} {base X Y p q : Nat} {vx vy : Value} {xs ys : List Value} (h : TwoS w base X Y vx vy p q xs ys) : TwoS w base Y X vy vx q p ys xs :=
  ⟨h.y, h.x, h.xy.symm, h.yX, h.xY, fun r e e2 => h.row r e2 e⟩
theorem TwoS.below {w w' : World} {base X Y p q : Nat} {vx vy : Value} {xs ys : List Value} (h : TwoS w base X Y vx vy p q xs ys) (hb : Below w.heap.size w w') : TwoS w' base X Y vx vy p q xs ys :=
  ⟨h.x.below hb, h.y.below hb, h.xy, h.xY, h.yX, h.row⟩
theorem TwoS.add {w w' : World} {base X Y p q p' : Nat} {vx vy v' : Value} {xs ys xs' : List Value} (h : TwoS w base X Y vx vy p q xs ys) (hs : SumsAt w' base X v' p' xs') (hv : v'.ownBlock = vx.ownBlock ∨ ∃ g, v'.ownBlock = some g ∧ w.heap.size ≤ g)
    (hf : Frm w w' X vx.ownBlock) : TwoS w' base X Y v' vy p' q xs' ys := by
  have hY := h.y.blk.lt
  refine ⟨hs, h.y.other hf h.xy.symm h.xY.symm fun g e => ⟨fun e2 => h.yX (by rw [e, e2]), fun e2 => h.row g e2.symm e⟩, h.xy, ?_, h.yX, fun r e e2 => ?_⟩
  · rcases hv with hv | ⟨g, hv, hg⟩
    · rw [hv]; exact h.xY
    · rw [hv]; intro e; cases e; omega
  · rcases hv with hv | ⟨g, hv, hg⟩
    · rw [hv] at e; exact h.row r e e2
    · rw [hv] at e; cases e
      have := (h.y.own.lt r e2).2
      omega
set_option maxHeartbeats 8000000 in
theorem totalGathers_walk (n c m d : Nat) (A M : Option Addr) (f g : Nat → Nat) (w : World) (hN : n ≤ 17592186044416) (hM : m ≤ 17592186044416) (hnc : n ≤ c) (hmd : m ≤ d) (hA : FlAt w w.heap.size A n f) (hm : FlAt w w.heap.size M m g)
    (hf : ∀ j, j < n → f j < 2 ^ 64) (hg : ∀ j, j < m → g j < 2 ^ 64) :
    Calls Try.prog 7 #[.slice A n c, .slice M m d] w fun en w' => en = .returned (.bool true) ∧ Below w.heap.size w w' := by
  have h00 : fne .f64 0 0 = false := by decide
  by_cases hn : n ≤ 300 ∧ m ≤ 300
  · obtain ⟨hn3, hm3⟩ := hn
    have HA := Lib.hid hA; have HM := Lib.hid hm; have HF := Lib.hid hf; have HG := Lib.hid hg
    clear hA hm hf hg
    have hn1 : ¬ (n : Int) > 300 := by omega
    have hn2 : ¬ 300 < (n : Int) := by omega
    have hm1 : ¬ (m : Int) > 300 := by omega
    have hm2 : ¬ 300 < (m : Int) := by omega
    go_enter Try.func7, Try.ntmps7
    go_wp2_with fail
    refine (newsums_any w).mono ?_
    rintro en w1 ⟨rfl, hx1, hb1, hz1⟩
    have HX1 := Lib.hid hx1; have B1 := Lib.hid hb1
    clear hx1 hb1
    go_wp2_with fail
    refine (newsums_any w1).mono ?_
    rintro en w2 ⟨rfl, hy2, hb2, hz2⟩
    rw [hz1] at hy2
    have HT2 : Hid (TwoS w2 w.heap.size w.heap.size (w.heap.size + 1) (.slice none 0 0) (.slice none 0 0) 0 0 [] []) := Lib.hid
      ⟨HX1.out.below hb2, ⟨hy2.blk, by omega, World.ownsRow_nil _ _ _ _, hy2.ne⟩, by omega, by simp [Value.ownBlock], by simp [Value.ownBlock], by simp [Value.ownBlock]⟩
    have B2 := Lib.hid (B1.out.trans (hb2.mono B1.out.size))
    clear hy2 hb2 HX1
    go_wp2_with fail
    refine (awake_any w2).mono ?_
    rintro en w3 ⟨rfl, hb3⟩
    have HT3 := Lib.hid (HT2.out.below hb3)
    have B3 := Lib.hid (B2.out.trans (hb3.mono B2.out.size))
    clear hb3 HT2 B2 B1 hz2
    go_wp2_with fail
    refine (sadd_nil _ _).mono ?_
    rintro en w99 ⟨rfl, rfl⟩
    go_wp2_with fail
    refine (stotal_nil _).mono ?_
    rintro en w99 ⟨rfl, rfl⟩
    go_wp2_with fail
    refine (scount_nil _).mono ?_
    rintro en w99 ⟨rfl, rfl⟩
    go_wp2_with fail
    clear hz1
    go_loopw [8, 9, 10] (fun t t9 t10 wr => ∃ (i : Nat) (vx vy : Value), t = .int .i64 i ∧ (i ≤ n ∨ i ≤ m) ∧ Below w.heap.size w wr ∧ TwoS wr w.heap.size w.heap.size (w.heap.size + 1) vx vy (min i n) (min i m) (nums f (min i n)) (nums g (min i m))) (fun t _ _ _ => (n + m) - (intOf t).toNat)
    case atStart => exact ⟨0, _, _, rfl, by omega, B3.out, by simpa [nums] using HT3.out⟩
    case round =>
      obtain ⟨i, vx, vy, rfl, hi, hbw, htw⟩ := hrel
      have BW := Lib.hid hbw
      clear hbw HT3 B3
      by_cases hin : i < n
      · have h3 : (i : Int) < (n : Int) := by omega
        have h0 : (0 : Int) ≤ (i : Int) := by omega
        have h4 : (i : Int) + 1 ≤ (n : Int) := by omega
        have e1 : min (i + 1) n = i + 1 := by omega
        have hpe : (((i + 1 : Nat)) : Int) = (i : Int) + 1 := by omega
        rw [show min i n = i by omega] at htw
        obtain ⟨a9, o9, rfl, hab, hc9⟩ := (HA.out.below BW.out (Nat.le_refl _)) (by omega)
        have q := hc9 i hin
        clear hc9
        by_cases him : i < m
        · have h3' : (i : Int) < (m : Int) := by omega
          have h4' : (i : Int) + 1 ≤ (m : Int) := by omega
          have e2 : min (i + 1) m = i + 1 := by omega
          rw [show min i m = i by omega] at htw
          have TW0 := Lib.hid htw
          clear htw
          go_wp2_with fail
          refine (sadd_any w.heap.size w.heap.size _ (f i) _ vx wr TW0.out.x (by omega) BW.out.size).mono ?_
          rintro en wa ⟨rfl, vx', hs, hv, hfr⟩
          have TW1 := Lib.hid (TW0.out.add hs hv hfr)
          have BA := Lib.hid (hfr.below BW.out (Nat.le_refl _) (fun k e => (TW0.out.x.own.lt k e).1))
          clear hs hv hfr
          rw [nums_next] at TW1
          obtain ⟨b9, o8, rfl, hbb, hc8⟩ := (HM.out.below BA.out (Nat.le_refl _)) (by omega)
          have q2 := hc8 i him
          clear hc8 q
          go_wp2_with fail
          clear q2
          refine (sadd_any w.heap.size (w.heap.size + 1) _ (g i) _ vy wa TW1.out.y (by omega) BA.out.size).mono ?_
          rintro en wb ⟨rfl, vy', hs, hv, hfr⟩
          have TW := Lib.hid (TW1.out.swap.add hs hv hfr).swap
          have BB := Lib.hid (hfr.below BA.out (by omega) (fun k e => (TW1.out.y.own.lt k e).1))
          clear hs hv hfr
          rw [nums_next] at TW
          go_wp2_with fail
          have HC1 := Lib.hid fun w' (hb : Below wb.heap.size wb w') => scount_any w.heap.size w.heap.size (i+1) f vx' w' (TW.out.x.below hb)
          have HT1 := Lib.hid fun w' (hb : Below wb.heap.size wb w') => stotal_any w.heap.size w.heap.size (i+1) f vx' w' (TW.out.x.below hb) (by omega) (fun j hj => HF.out j (by omega))
          have HC2 := Lib.hid fun w' (hb : Below wb.heap.size wb w') => scount_any w.heap.size (w.heap.size + 1) (i+1) g vy' w' (TW.out.y.below hb)
          have HT2 := Lib.hid fun w' (hb : Below wb.heap.size wb w') => stotal_any w.heap.size (w.heap.size + 1) (i+1) g vy' w' (TW.out.y.below hb) (by omega) (fun j hj => HG.out j (by omega))
          have HE1 := Lib.hid fun w' (hb : Below wb.heap.size wb w') => rexact_any (i+1) c _ f w' ((flat_first (m := (i+1)) ((HA.out.below BB.out (Nat.le_refl _)).below hb BB.out.size) (by omega)).more (Nat.le_trans BB.out.size hb.size)) (by omega) (fun j hj => HF.out j (by omega))
          have HE2 := Lib.hid fun w' (hb : Below wb.heap.size wb w') => rexact_any (i+1) d _ g w' ((flat_first (m := (i+1)) ((HM.out.below BB.out (Nat.le_refl _)).below hb BB.out.size) (by omega)).more (Nat.le_trans BB.out.size hb.size)) (by omega) (fun j hj => HG.out j (by omega))
          have HS1 := Lib.hid fun w' => psame_any (exactV f (i+1)) (rexV f (i+1)) w' (cn_rexV f (i+1)).symm
          have HS2 := Lib.hid fun w' => psame_any (exactV g (i+1)) (rexV g (i+1)) w' (cn_rexV g (i+1)).symm
          generalize exactV f (i+1) = V1 at HT1 HS1
          generalize rexV f (i+1) = R1 at HE1 HS1
          generalize exactV g (i+1) = V2 at HT2 HS2
          generalize rexV g (i+1) = R2 at HE2 HS2
          simp only [hpe] at HC1
          simp only [hpe] at HC2
          have hc1 : (0 : Int) ≤ ((i : Int) + 1) := by omega
          have hc2 : (0 : Int) ≤ ((i : Int) + 1) := by omega
          have hc3 : ((i : Int) + 1) ≤ (c : Int) := by omega
          have hc4 : ((i : Int) + 1) ≤ (d : Int) := by omega
          have hc5 : (((i : Int) + 1)).toNat = (i+1) := by omega
          have hc6 : (((i : Int) + 1)).toNat = (i+1) := by omega
          have hc7 : min ((i : Int) + 1) (n : Int) = ((i : Int) + 1) := by omega
          have hc8 : min ((i : Int) + 1) (m : Int) = ((i : Int) + 1) := by omega
          go_wp2_with fail
          refine Reg.wp_region_rd (by kernel_rfl) (by kernel_rfl) (fun _ => ?_)
          repeat (refine Reg.rd_op rfl ?_; apply Exists.intro; apply And.intro; (intro w' hb; have hc := Reg.rd_cells hb; clear hb; go_simp; (try go_bits); first | done | (with_reducible exact rfl)); (intro _ a' ha'; simp only [Act.put, List.setIfInBounds_toArray, List.set_cons_zero, List.set_cons_succ] at ha'; subst ha'))
          refine Reg.rd_op rfl ?_; apply Exists.intro; apply And.intro
          · intro w' hb; have hbw := Lib.hid hb; clear hb; go_simp; (try go_bits); exact (HC1.out _ hbw.out).mono fun en w'' ⟨e1, e2⟩ => ⟨e1, by rw [← e2]; exact Below.refl _ _⟩
          intro _ a' ha'; simp only [Act.put, List.setIfInBounds_toArray, List.set_cons_zero, List.set_cons_succ] at ha'; subst ha'
          repeat (refine Reg.rd_op rfl ?_; apply Exists.intro; apply And.intro; (intro w' hb; have hc := Reg.rd_cells hb; clear hb; go_simp; (try go_bits); first | done | (with_reducible exact rfl)); (intro _ a' ha'; simp only [Act.put, List.setIfInBounds_toArray, List.set_cons_zero, List.set_cons_succ] at ha'; subst ha'))
          refine Reg.rd_op rfl ?_; apply Exists.intro; apply And.intro
          · intro w' hb; have hbw := Lib.hid hb; clear hb; go_simp; (try go_bits); exact (HC2.out _ hbw.out).mono fun en w'' ⟨e1, e2⟩ => ⟨e1, by rw [← e2]; exact Below.refl _ _⟩
          intro _ a' ha'; simp only [Act.put, List.setIfInBounds_toArray, List.set_cons_zero, List.set_cons_succ] at ha'; subst ha'
          repeat (refine Reg.rd_op rfl ?_; apply Exists.intro; apply And.intro; (intro w' hb; have hc := Reg.rd_cells hb; clear hb; go_simp; (try go_bits); first | done | (with_reducible exact rfl)); (intro _ a' ha'; simp only [Act.put, List.setIfInBounds_toArray, List.set_cons_zero, List.set_cons_succ] at ha'; subst ha'))
          refine Reg.rd_op rfl ?_; apply Exists.intro; apply And.intro
          · intro w' hb; have hbw := Lib.hid hb; clear hb; go_simp; (try go_bits); exact HT1.out _ hbw.out
          intro _ a' ha'; simp only [Act.put, List.setIfInBounds_toArray, List.set_cons_zero, List.set_cons_succ] at ha'; subst ha'
          repeat (refine Reg.rd_op rfl ?_; apply Exists.intro; apply And.intro; (intro w' hb; have hc := Reg.rd_cells hb; clear hb; go_simp; (try go_bits); first | done | (with_reducible exact rfl)); (intro _ a' ha'; simp only [Act.put, List.setIfInBounds_toArray, List.set_cons_zero, List.set_cons_succ] at ha'; subst ha'))
          refine Reg.rd_op rfl ?_; apply Exists.intro; apply And.intro
          · intro w' hb; have hbw := Lib.hid hb; clear hb; go_simp; (try go_bits); exact HE1.out _ hbw.out
          intro _ a' ha'; simp only [Act.put, List.setIfInBounds_toArray, List.set_cons_zero, List.set_cons_succ] at ha'; subst ha'
          refine Reg.rd_op rfl ?_; apply Exists.intro; apply And.intro
          · intro w' hb; have hbw := Lib.hid hb; clear hb; go_simp; (try go_bits); exact (HS1.out _).mono fun en w'' ⟨e1, e2⟩ => ⟨e1, by rw [← e2]; exact Below.refl _ _⟩
          intro _ a' ha'; simp only [Act.put, List.setIfInBounds_toArray, List.set_cons_zero, List.set_cons_succ] at ha'; subst ha'
          repeat (refine Reg.rd_op rfl ?_; apply Exists.intro; apply And.intro; (intro w' hb; have hc := Reg.rd_cells hb; clear hb; go_simp; (try go_bits); first | done | (with_reducible exact rfl)); (intro _ a' ha'; simp only [Act.put, List.setIfInBounds_toArray, List.set_cons_zero, List.set_cons_succ] at ha'; subst ha'))
          refine Reg.rd_op rfl ?_; apply Exists.intro; apply And.intro
          · intro w' hb; have hbw := Lib.hid hb; clear hb; go_simp; (try go_bits); exact HT2.out _ hbw.out
          intro _ a' ha'; simp only [Act.put, List.setIfInBounds_toArray, List.set_cons_zero, List.set_cons_succ] at ha'; subst ha'
          repeat (refine Reg.rd_op rfl ?_; apply Exists.intro; apply And.intro; (intro w' hb; have hc := Reg.rd_cells hb; clear hb; go_simp; (try go_bits); first | done | (with_reducible exact rfl)); (intro _ a' ha'; simp only [Act.put, List.setIfInBounds_toArray, List.set_cons_zero, List.set_cons_succ] at ha'; subst ha'))
          refine Reg.rd_op rfl ?_; apply Exists.intro; apply And.intro
          · intro w' hb; have hbw := Lib.hid hb; clear hb; go_simp; (try go_bits); exact HE2.out _ hbw.out
          intro _ a' ha'; simp only [Act.put, List.setIfInBounds_toArray, List.set_cons_zero, List.set_cons_succ] at ha'; subst ha'
          refine Reg.rd_op rfl ?_; apply Exists.intro; apply And.intro
          · intro w' hb; have hbw := Lib.hid hb; clear hb; go_simp; (try go_bits); exact (HS2.out _).mono fun en w'' ⟨e1, e2⟩ => ⟨e1, by rw [← e2]; exact Below.refl _ _⟩
          intro _ a' ha'; simp only [Act.put, List.setIfInBounds_toArray, List.set_cons_zero, List.set_cons_succ] at ha'; subst ha'
          repeat (refine Reg.rd_op rfl ?_; apply Exists.intro; apply And.intro; (intro w' hb; have hc := Reg.rd_cells hb; clear hb; go_simp; (try go_bits); first | done | (with_reducible exact rfl)); (intro _ a' ha'; simp only [Act.put, List.setIfInBounds_toArray, List.set_cons_zero, List.set_cons_succ] at ha'; subst ha'))
          refine Reg.rd_end (fun wz hb => ?_)
          have TWZ := Lib.hid (TW.out.below hb)
          have BZ := Lib.hid (BB.out.trans (hb.mono BB.out.size))
          clear hb
          go_wp2_with fail
          go_roundw
          case rel => exact ⟨i + 1, _, _, by go_num, by omega, BZ.out, by rw [e1, e2]; exact TWZ.out⟩
          case measure => (simp [intOf] <;> omega)
        · have h3' : ¬ (i : Int) < (m : Int) := by omega
          have h4' : ¬ (i : Int) + 1 ≤ (m : Int) := by omega
          have h5' : (m : Int) ≤ (i : Int) := by omega
          have h6' : (m : Int) ≤ (i : Int) + 1 := by omega
          have e2 : min (i + 1) m = m := by omega
          rw [show min i m = m by omega] at htw
          have TW0 := Lib.hid htw
          clear htw
          go_wp2_with fail
          refine (sadd_any w.heap.size w.heap.size _ (f i) _ vx wr TW0.out.x (by omega) BW.out.size).mono ?_
          rintro en wa ⟨rfl, vx', hs, hv, hfr⟩
          have TW1 := Lib.hid (TW0.out.add hs hv hfr)
          have BA := Lib.hid (hfr.below BW.out (Nat.le_refl _) (fun k e => (TW0.out.x.own.lt k e).1))
          clear hs hv hfr
          rw [nums_next] at TW1
          have TW := TW1
          clear TW1 q
          go_wp2_with fail
          have HC1 := Lib.hid fun w' (hb : Below wa.heap.size wa w') => scount_any w.heap.size w.heap.size (i+1) f vx' w' (TW.out.x.below hb)
          have HT1 := Lib.hid fun w' (hb : Below wa.heap.size wa w') => stotal_any w.heap.size w.heap.size (i+1) f vx' w' (TW.out.x.below hb) (by omega) (fun j hj => HF.out j (by omega))
          have HC2 := Lib.hid fun w' (hb : Below wa.heap.size wa w') => scount_any w.heap.size (w.heap.size + 1) m g vy w' (TW.out.y.below hb)
          have HT2 := Lib.hid fun w' (hb : Below wa.heap.size wa w') => stotal_any w.heap.size (w.heap.size + 1) m g vy w' (TW.out.y.below hb) (by omega) (fun j hj => HG.out j (by omega))
          have HE1 := Lib.hid fun w' (hb : Below wa.heap.size wa w') => rexact_any (i+1) c _ f w' ((flat_first (m := (i+1)) ((HA.out.below BA.out (Nat.le_refl _)).below hb BA.out.size) (by omega)).more (Nat.le_trans BA.out.size hb.size)) (by omega) (fun j hj => HF.out j (by omega))
          have HE2 := Lib.hid fun w' (hb : Below wa.heap.size wa w') => rexact_any m d _ g w' ((flat_first (m := m) ((HM.out.below BA.out (Nat.le_refl _)).below hb BA.out.size) (by omega)).more (Nat.le_trans BA.out.size hb.size)) (by omega) (fun j hj => HG.out j (by omega))
          have HS1 := Lib.hid fun w' => psame_any (exactV f (i+1)) (rexV f (i+1)) w' (cn_rexV f (i+1)).symm
          have HS2 := Lib.hid fun w' => psame_any (exactV g m) (rexV g m) w' (cn_rexV g m).symm
          generalize exactV f (i+1) = V1 at HT1 HS1
          generalize rexV f (i+1) = R1 at HE1 HS1
          generalize exactV g m = V2 at HT2 HS2
          generalize rexV g m = R2 at HE2 HS2
          simp only [hpe] at HC1
          skip
          have hc1 : (0 : Int) ≤ ((i : Int) + 1) := by omega
          have hc2 : (0 : Int) ≤ (m : Int) := by omega
          have hc3 : ((i : Int) + 1) ≤ (c : Int) := by omega
          have hc4 : (m : Int) ≤ (d : Int) := by omega
          have hc5 : (((i : Int) + 1)).toNat = (i+1) := by omega
          have hc6 : ((m : Int)).toNat = m := by omega
          have hc7 : min ((i : Int) + 1) (n : Int) = ((i : Int) + 1) := by omega
          have hc8 : min ((i : Int) + 1) (m : Int) = (m : Int) := by omega
          go_wp2_with fail
          refine Reg.wp_region_rd (by kernel_rfl) (by kernel_rfl) (fun _ => ?_)
          repeat (refine Reg.rd_op rfl ?_; apply Exists.intro; apply And.intro; (intro w' hb; have hc := Reg.rd_cells hb; clear hb; go_simp; (try go_bits); first | done | (with_reducible exact rfl)); (intro _ a' ha'; simp only [Act.put, List.setIfInBounds_toArray, List.set_cons_zero, List.set_cons_succ] at ha'; subst ha'))
          refine Reg.rd_op rfl ?_; apply Exists.intro; apply And.intro
          · intro w' hb; have hbw := Lib.hid hb; clear hb; go_simp; (try go_bits); exact (HC1.out _ hbw.out).mono fun en w'' ⟨e1, e2⟩ => ⟨e1, by rw [← e2]; exact Below.refl _ _⟩
          intro _ a' ha'; simp only [Act.put, List.setIfInBounds_toArray, List.set_cons_zero, List.set_cons_succ] at ha'; subst ha'
          repeat (refine Reg.rd_op rfl ?_; apply Exists.intro; apply And.intro; (intro w' hb; have hc := Reg.rd_cells hb; clear hb; go_simp; (try go_bits); first | done | (with_reducible exact rfl)); (intro _ a' ha'; simp only [Act.put, List.setIfInBounds_toArray, List.set_cons_zero, List.set_cons_succ] at ha'; subst ha'))
          refine Reg.rd_op rfl ?_; apply Exists.intro; apply And.intro
          · intro w' hb; have hbw := Lib.hid hb; clear hb; go_simp; (try go_bits); exact (HC2.out _ hbw.out).mono fun en w'' ⟨e1, e2⟩ => ⟨e1, by rw [← e2]; exact Below.refl _ _⟩
          intro _ a' ha'; simp only [Act.put, List.setIfInBounds_toArray, List.set_cons_zero, List.set_cons_succ] at ha'; subst ha'
          repeat (refine Reg.rd_op rfl ?_; apply Exists.intro; apply And.intro; (intro w' hb; have hc := Reg.rd_cells hb; clear hb; go_simp; (try go_bits); first | done | (with_reducible exact rfl)); (intro _ a' ha'; simp only [Act.put, List.setIfInBounds_toArray, List.set_cons_zero, List.set_cons_succ] at ha'; subst ha'))
          refine Reg.rd_op rfl ?_; apply Exists.intro; apply And.intro
          · intro w' hb; have hbw := Lib.hid hb; clear hb; go_simp; (try go_bits); exact HT1.out _ hbw.out
          intro _ a' ha'; simp only [Act.put, List.setIfInBounds_toArray, List.set_cons_zero, List.set_cons_succ] at ha'; subst ha'
          repeat (refine Reg.rd_op rfl ?_; apply Exists.intro; apply And.intro; (intro w' hb; have hc := Reg.rd_cells hb; clear hb; go_simp; (try go_bits); first | done | (with_reducible exact rfl)); (intro _ a' ha'; simp only [Act.put, List.setIfInBounds_toArray, List.set_cons_zero, List.set_cons_succ] at ha'; subst ha'))
          refine Reg.rd_op rfl ?_; apply Exists.intro; apply And.intro
          · intro w' hb; have hbw := Lib.hid hb; clear hb; go_simp; (try go_bits); exact HE1.out _ hbw.out
          intro _ a' ha'; simp only [Act.put, List.setIfInBounds_toArray, List.set_cons_zero, List.set_cons_succ] at ha'; subst ha'
          refine Reg.rd_op rfl ?_; apply Exists.intro; apply And.intro
          · intro w' hb; have hbw := Lib.hid hb; clear hb; go_simp; (try go_bits); exact (HS1.out _).mono fun en w'' ⟨e1, e2⟩ => ⟨e1, by rw [← e2]; exact Below.refl _ _⟩
          intro _ a' ha'; simp only [Act.put, List.setIfInBounds_toArray, List.set_cons_zero, List.set_cons_succ] at ha'; subst ha'
          repeat (refine Reg.rd_op rfl ?_; apply Exists.intro; apply And.intro; (intro w' hb; have hc := Reg.rd_cells hb; clear hb; go_simp; (try go_bits); first | done | (with_reducible exact rfl)); (intro _ a' ha'; simp only [Act.put, List.setIfInBounds_toArray, List.set_cons_zero, List.set_cons_succ] at ha'; subst ha'))
          refine Reg.rd_op rfl ?_; apply Exists.intro; apply And.intro
          · intro w' hb; have hbw := Lib.hid hb; clear hb; go_simp; (try go_bits); exact HT2.out _ hbw.out
          intro _ a' ha'; simp only [Act.put, List.setIfInBounds_toArray, List.set_cons_zero, List.set_cons_succ] at ha'; subst ha'
          repeat (refine Reg.rd_op rfl ?_; apply Exists.intro; apply And.intro; (intro w' hb; have hc := Reg.rd_cells hb; clear hb; go_simp; (try go_bits); first | done | (with_reducible exact rfl)); (intro _ a' ha'; simp only [Act.put, List.setIfInBounds_toArray, List.set_cons_zero, List.set_cons_succ] at ha'; subst ha'))
          refine Reg.rd_op rfl ?_; apply Exists.intro; apply And.intro
          · intro w' hb; have hbw := Lib.hid hb; clear hb; go_simp; (try go_bits); exact HE2.out _ hbw.out
          intro _ a' ha'; simp only [Act.put, List.setIfInBounds_toArray, List.set_cons_zero, List.set_cons_succ] at ha'; subst ha'
          refine Reg.rd_op rfl ?_; apply Exists.intro; apply And.intro
          · intro w' hb; have hbw := Lib.hid hb; clear hb; go_simp; (try go_bits); exact (HS2.out _).mono fun en w'' ⟨e1, e2⟩ => ⟨e1, by rw [← e2]; exact Below.refl _ _⟩
          intro _ a' ha'; simp only [Act.put, List.setIfInBounds_toArray, List.set_cons_zero, List.set_cons_succ] at ha'; subst ha'
          repeat (refine Reg.rd_op rfl ?_; apply Exists.intro; apply And.intro; (intro w' hb; have hc := Reg.rd_cells hb; clear hb; go_simp; (try go_bits); first | done | (with_reducible exact rfl)); (intro _ a' ha'; simp only [Act.put, List.setIfInBounds_toArray, List.set_cons_zero, List.set_cons_succ] at ha'; subst ha'))
          refine Reg.rd_end (fun wz hb => ?_)
          have TWZ := Lib.hid (TW.out.below hb)
          have BZ := Lib.hid (BA.out.trans (hb.mono BA.out.size))
          clear hb
          go_wp2_with fail
          go_roundw
          case rel => exact ⟨i + 1, _, _, by go_num, by omega, BZ.out, by rw [e1, e2]; exact TWZ.out⟩
          case measure => (simp [intOf] <;> omega)
      · by_cases him : i < m
        · have h3 : ¬ (i : Int) < (n : Int) := by omega
          have h4 : ¬ (i : Int) + 1 ≤ (n : Int) := by omega
          have h5 : (n : Int) ≤ (i : Int) := by omega
          have h6 : (n : Int) ≤ (i : Int) + 1 := by omega
          have h0 : (0 : Int) ≤ (i : Int) := by omega
          have h3' : (i : Int) < (m : Int) := by omega
          have h4' : (i : Int) + 1 ≤ (m : Int) := by omega
          have e1 : min (i + 1) n = n := by omega
          have e2 : min (i + 1) m = i + 1 := by omega
          have hpe : (((i + 1 : Nat)) : Int) = (i : Int) + 1 := by omega
          rw [show min i n = n by omega, show min i m = i by omega] at htw
          have TW0 := Lib.hid htw
          clear htw
          obtain ⟨b9, o8, rfl, hbb, hc8⟩ := (HM.out.below BW.out (Nat.le_refl _)) (by omega)
          have q2 := hc8 i him
          clear hc8
          go_wp2_with fail
          clear q2
          refine (sadd_any w.heap.size (w.heap.size + 1) _ (g i) _ vy wr TW0.out.y (by omega) BW.out.size).mono ?_
          rintro en wa ⟨rfl, vy', hs, hv, hfr⟩
          have TW := Lib.hid (TW0.out.swap.add hs hv hfr).swap
          have BA := Lib.hid (hfr.below BW.out (by omega) (fun k e => (TW0.out.y.own.lt k e).1))
          clear hs hv hfr
          rw [nums_next] at TW
          go_wp2_with fail
          have HC1 := Lib.hid fun w' (hb : Below wa.heap.size wa w') => scount_any w.heap.size w.heap.size n f vx w' (TW.out.x.below hb)
          have HT1 := Lib.hid fun w' (hb : Below wa.heap.size wa w') => stotal_any w.heap.size w.heap.size n f vx w' (TW.out.x.below hb) (by omega) (fun j hj => HF.out j (by omega))
          have HC2 := Lib.hid fun w' (hb : Below wa.heap.size wa w') => scount_any w.heap.size (w.heap.size + 1) (i+1) g vy' w' (TW.out.y.below hb)
          have HT2 := Lib.hid fun w' (hb : Below wa.heap.size wa w') => stotal_any w.heap.size (w.heap.size + 1) (i+1) g vy' w' (TW.out.y.below hb) (by omega) (fun j hj => HG.out j (by omega))
          have HE1 := Lib.hid fun w' (hb : Below wa.heap.size wa w') => rexact_any n c _ f w' ((flat_first (m := n) ((HA.out.below BA.out (Nat.le_refl _)).below hb BA.out.size) (by omega)).more (Nat.le_trans BA.out.size hb.size)) (by omega) (fun j hj => HF.out j (by omega))
          have HE2 := Lib.hid fun w' (hb : Below wa.heap.size wa w') => rexact_any (i+1) d _ g w' ((flat_first (m := (i+1)) ((HM.out.below BA.out (Nat.le_refl _)).below hb BA.out.size) (by omega)).more (Nat.le_trans BA.out.size hb.size)) (by omega) (fun j hj => HG.out j (by omega))
          have HS1 := Lib.hid fun w' => psame_any (exactV f n) (rexV f n) w' (cn_rexV f n).symm
          have HS2 := Lib.hid fun w' => psame_any (exactV g (i+1)) (rexV g (i+1)) w' (cn_rexV g (i+1)).symm
          generalize exactV f n = V1 at HT1 HS1
          generalize rexV f n = R1 at HE1 HS1
          generalize exactV g (i+1) = V2 at HT2 HS2
          generalize rexV g (i+1) = R2 at HE2 HS2
          skip
          simp only [hpe] at HC2
          have hc1 : (0 : Int) ≤ (n : Int) := by omega
          have hc2 : (0 : Int) ≤ ((i : Int) + 1) := by omega
          have hc3 : (n : Int) ≤ (c : Int) := by omega
          have hc4 : ((i : Int) + 1) ≤ (d : Int) := by omega
          have hc5 : ((n : Int)).toNat = n := by omega
          have hc6 : (((i : Int) + 1)).toNat = (i+1) := by omega
          have hc7 : min ((i : Int) + 1) (n : Int) = (n : Int) := by omega
          have hc8 : min ((i : Int) + 1) (m : Int) = ((i : Int) + 1) := by omega
          go_wp2_with fail
          refine Reg.wp_region_rd (by kernel_rfl) (by kernel_rfl) (fun _ => ?_)
          repeat (refine Reg.rd_op rfl ?_; apply Exists.intro; apply And.intro; (intro w' hb; have hc := Reg.rd_cells hb; clear hb; go_simp; (try go_bits); first | done | (with_reducible exact rfl)); (intro _ a' ha'; simp only [Act.put, List.setIfInBounds_toArray, List.set_cons_zero, List.set_cons_succ] at ha'; subst ha'))
          refine Reg.rd_op rfl ?_; apply Exists.intro; apply And.intro
          · intro w' hb; have hbw := Lib.hid hb; clear hb; go_simp; (try go_bits); exact (HC1.out _ hbw.out).mono fun en w'' ⟨e1, e2⟩ => ⟨e1, by rw [← e2]; exact Below.refl _ _⟩
          intro _ a' ha'; simp only [Act.put, List.setIfInBounds_toArray, List.set_cons_zero, List.set_cons_succ] at ha'; subst ha'
          repeat (refine Reg.rd_op rfl ?_; apply Exists.intro; apply And.intro; (intro w' hb; have hc := Reg.rd_cells hb; clear hb; go_simp; (try go_bits); first | done | (with_reducible exact rfl)); (intro _ a' ha'; simp only [Act.put, List.setIfInBounds_toArray, List.set_cons_zero, List.set_cons_succ] at ha'; subst ha'))
          refine Reg.rd_op rfl ?_; apply Exists.intro; apply And.intro
          · intro w' hb; have hbw := Lib.hid hb; clear hb; go_simp; (try go_bits); exact (HC2.out _ hbw.out).mono fun en w'' ⟨e1, e2⟩ => ⟨e1, by rw [← e2]; exact Below.refl _ _⟩
          intro _ a' ha'; simp only [Act.put, List.setIfInBounds_toArray, List.set_cons_zero, List.set_cons_succ] at ha'; subst ha'
          repeat (refine Reg.rd_op rfl ?_; apply Exists.intro; apply And.intro; (intro w' hb; have hc := Reg.rd_cells hb; clear hb; go_simp; (try go_bits); first | done | (with_reducible exact rfl)); (intro _ a' ha'; simp only [Act.put, List.setIfInBounds_toArray, List.set_cons_zero, List.set_cons_succ] at ha'; subst ha'))
          refine Reg.rd_op rfl ?_; apply Exists.intro; apply And.intro
          · intro w' hb; have hbw := Lib.hid hb; clear hb; go_simp; (try go_bits); exact HT1.out _ hbw.out
          intro _ a' ha'; simp only [Act.put, List.setIfInBounds_toArray, List.set_cons_zero, List.set_cons_succ] at ha'; subst ha'
          repeat (refine Reg.rd_op rfl ?_; apply Exists.intro; apply And.intro; (intro w' hb; have hc := Reg.rd_cells hb; clear hb; go_simp; (try go_bits); first | done | (with_reducible exact rfl)); (intro _ a' ha'; simp only [Act.put, List.setIfInBounds_toArray, List.set_cons_zero, List.set_cons_succ] at ha'; subst ha'))
          refine Reg.rd_op rfl ?_; apply Exists.intro; apply And.intro
          · intro w' hb; have hbw := Lib.hid hb; clear hb; go_simp; (try go_bits); exact HE1.out _ hbw.out
          intro _ a' ha'; simp only [Act.put, List.setIfInBounds_toArray, List.set_cons_zero, List.set_cons_succ] at ha'; subst ha'
          refine Reg.rd_op rfl ?_; apply Exists.intro; apply And.intro
          · intro w' hb; have hbw := Lib.hid hb; clear hb; go_simp; (try go_bits); exact (HS1.out _).mono fun en w'' ⟨e1, e2⟩ => ⟨e1, by rw [← e2]; exact Below.refl _ _⟩
          intro _ a' ha'; simp only [Act.put, List.setIfInBounds_toArray, List.set_cons_zero, List.set_cons_succ] at ha'; subst ha'
          repeat (refine Reg.rd_op rfl ?_; apply Exists.intro; apply And.intro; (intro w' hb; have hc := Reg.rd_cells hb; clear hb; go_simp; (try go_bits); first | done | (with_reducible exact rfl)); (intro _ a' ha'; simp only [Act.put, List.setIfInBounds_toArray, List.set_cons_zero, List.set_cons_succ] at ha'; subst ha'))
          refine Reg.rd_op rfl ?_; apply Exists.intro; apply And.intro
          · intro w' hb; have hbw := Lib.hid hb; clear hb; go_simp; (try go_bits); exact HT2.out _ hbw.out
          intro _ a' ha'; simp only [Act.put, List.setIfInBounds_toArray, List.set_cons_zero, List.set_cons_succ] at ha'; subst ha'
          repeat (refine Reg.rd_op rfl ?_; apply Exists.intro; apply And.intro; (intro w' hb; have hc := Reg.rd_cells hb; clear hb; go_simp; (try go_bits); first | done | (with_reducible exact rfl)); (intro _ a' ha'; simp only [Act.put, List.setIfInBounds_toArray, List.set_cons_zero, List.set_cons_succ] at ha'; subst ha'))
          refine Reg.rd_op rfl ?_; apply Exists.intro; apply And.intro
          · intro w' hb; have hbw := Lib.hid hb; clear hb; go_simp; (try go_bits); exact HE2.out _ hbw.out
          intro _ a' ha'; simp only [Act.put, List.setIfInBounds_toArray, List.set_cons_zero, List.set_cons_succ] at ha'; subst ha'
          refine Reg.rd_op rfl ?_; apply Exists.intro; apply And.intro
          · intro w' hb; have hbw := Lib.hid hb; clear hb; go_simp; (try go_bits); exact (HS2.out _).mono fun en w'' ⟨e1, e2⟩ => ⟨e1, by rw [← e2]; exact Below.refl _ _⟩
          intro _ a' ha'; simp only [Act.put, List.setIfInBounds_toArray, List.set_cons_zero, List.set_cons_succ] at ha'; subst ha'
          repeat (refine Reg.rd_op rfl ?_; apply Exists.intro; apply And.intro; (intro w' hb; have hc := Reg.rd_cells hb; clear hb; go_simp; (try go_bits); first | done | (with_reducible exact rfl)); (intro _ a' ha'; simp only [Act.put, List.setIfInBounds_toArray, List.set_cons_zero, List.set_cons_succ] at ha'; subst ha'))
          refine Reg.rd_end (fun wz hb => ?_)
          have TWZ := Lib.hid (TW.out.below hb)
          have BZ := Lib.hid (BA.out.trans (hb.mono BA.out.size))
          clear hb
          go_wp2_with fail
          go_roundw
          case rel => exact ⟨i + 1, _, _, by go_num, by omega, BZ.out, by rw [e1, e2]; exact TWZ.out⟩
          case measure => (simp [intOf] <;> omega)
        · have h3 : ¬ (i : Int) < (n : Int) := by omega
          have h3' : ¬ (i : Int) < (m : Int) := by omega
          rw [show min i n = n by omega, show min i m = m by omega] at htw
          have TW := Lib.hid htw
          clear htw
          go_wp2_with fail
          have HE1 := Lib.hid fun w' (hb : Below wr.heap.size wr w') => rexact_any n c A f w' (((HA.out.below BW.out (Nat.le_refl _)).below hb BW.out.size).more (Nat.le_trans BW.out.size hb.size)) (by omega) HF.out
          have HE2 := Lib.hid fun w' (hb : Below wr.heap.size wr w') => rexact_any m d M g w' (((HM.out.below BW.out (Nat.le_refl _)).below hb BW.out.size).more (Nat.le_trans BW.out.size hb.size)) (by omega) HG.out
          have HT1 := Lib.hid fun w' (hb : Below wr.heap.size wr w') => stotal_any w.heap.size w.heap.size n f vx w' (TW.out.x.below hb) (by omega) HF.out
          have HT2 := Lib.hid fun w' (hb : Below wr.heap.size wr w') => stotal_any w.heap.size (w.heap.size + 1) m g vy w' (TW.out.y.below hb) (by omega) HG.out
          have HS1 := Lib.hid fun w' => psame_any (exactV f n) (rexV f n) w' (cn_rexV f n).symm
          have HS2 := Lib.hid fun w' => psame_any (exactV g m) (rexV g m) w' (cn_rexV g m).symm
          refine (HT1.out _ (Below.refl _ _)).mono ?_
          rintro en wb ⟨rfl, hb1⟩
          have BB := Lib.hid hb1
          clear hb1
          go_wp2_with fail
          refine (HE1.out _ BB.out).mono ?_
          rintro en wc ⟨rfl, hb1⟩
          have BC := Lib.hid (BB.out.trans (hb1.mono BB.out.size))
          clear hb1
          go_wp2_with fail
          refine (HS1.out _).mono ?_
          rintro en w99 ⟨rfl, rfl⟩
          go_wp2_with fail
          refine (HT2.out _ BC.out).mono ?_
          rintro en wd ⟨rfl, hb1⟩
          have BD := Lib.hid (BC.out.trans (hb1.mono BC.out.size))
          clear hb1
          go_wp2_with fail
          refine (HE2.out _ BD.out).mono ?_
          rintro en we ⟨rfl, hb1⟩
          have BE := Lib.hid (BW.out.trans ((BD.out.trans (hb1.mono BD.out.size)).mono BW.out.size))
          clear hb1
          go_wp2_with fail
          refine (HS2.out _).mono ?_
          rintro en w99 ⟨rfl, rfl⟩
          go_wp2_with fail
          go_ret
          exact ⟨rfl, BE.out⟩
  · clear hA hm hf hg
    by_cases hn3 : 300 < n
    · have hn1 : (n : Int) > 300 := by omega
      have hn2 : 300 < (n : Int) := by omega
      clear hn
      go_enter Try.func7, Try.ntmps7
      go_wp2_with fail
      refine (newsums_any w).mono ?_
      rintro en w1 ⟨rfl, hx1, hb1, hz1⟩
      have HX1 := Lib.hid hx1; have B1 := Lib.hid hb1
      clear hx1 hb1
      go_wp2_with fail
      refine (newsums_any w1).mono ?_
      rintro en w2 ⟨rfl, hy2, hb2, hz2⟩
      rw [hz1] at hy2
      have HT2 : Hid (TwoS w2 w.heap.size w.heap.size (w.heap.size + 1) (.slice none 0 0) (.slice none 0 0) 0 0 [] []) := Lib.hid
        ⟨HX1.out.below hb2, ⟨hy2.blk, by omega, World.ownsRow_nil _ _ _ _, hy2.ne⟩, by omega, by simp [Value.ownBlock], by simp [Value.ownBlock], by simp [Value.ownBlock]⟩
      have B2 := Lib.hid (B1.out.trans (hb2.mono B1.out.size))
      clear hy2 hb2 HX1
      go_wp2_with fail
      refine (awake_any w2).mono ?_
      rintro en w3 ⟨rfl, hb3⟩
      have HT3 := Lib.hid (HT2.out.below hb3)
      have B3 := Lib.hid (B2.out.trans (hb3.mono B2.out.size))
      clear hb3 HT2 B2 B1 hz2
      go_wp2_with fail
      refine (sadd_nil _ _).mono ?_
      rintro en w99 ⟨rfl, rfl⟩
      go_wp2_with fail
      refine (stotal_nil _).mono ?_
      rintro en w99 ⟨rfl, rfl⟩
      go_wp2_with fail
      refine (scount_nil _).mono ?_
      rintro en w99 ⟨rfl, rfl⟩
      go_wp2_with fail
      clear hz1
      go_ret
      exact ⟨rfl, B3.out⟩
    · have hn1 : ¬ (n : Int) > 300 := by omega
      have hn2 : ¬ 300 < (n : Int) := by omega
      have hm1 : (m : Int) > 300 := by omega
      have hm2 : 300 < (m : Int) := by omega
      clear hn
      go_enter Try.func7, Try.ntmps7
      go_wp2_with fail
      refine (newsums_any w).mono ?_
      rintro en w1 ⟨rfl, hx1, hb1, hz1⟩
      have HX1 := Lib.hid hx1; have B1 := Lib.hid hb1
      clear hx1 hb1
      go_wp2_with fail
      refine (newsums_any w1).mono ?_
      rintro en w2 ⟨rfl, hy2, hb2, hz2⟩
      rw [hz1] at hy2
      have HT2 : Hid (TwoS w2 w.heap.size w.heap.size (w.heap.size + 1) (.slice none 0 0) (.slice none 0 0) 0 0 [] []) := Lib.hid
        ⟨HX1.out.below hb2, ⟨hy2.blk, by omega, World.ownsRow_nil _ _ _ _, hy2.ne⟩, by omega, by simp [Value.ownBlock], by simp [Value.ownBlock], by simp [Value.ownBlock]⟩
      have B2 := Lib.hid (B1.out.trans (hb2.mono B1.out.size))
      clear hy2 hb2 HX1
      go_wp2_with fail
      refine (awake_any w2).mono ?_
      rintro en w3 ⟨rfl, hb3⟩
      have HT3 := Lib.hid (HT2.out.below hb3)
      have B3 := Lib.hid (B2.out.trans (hb3.mono B2.out.size))
      clear hb3 HT2 B2 B1 hz2
      go_wp2_with fail
      refine (sadd_nil _ _).mono ?_
      rintro en w99 ⟨rfl, rfl⟩
      go_wp2_with fail
      refine (stotal_nil _).mono ?_
      rintro en w99 ⟨rfl, rfl⟩
      go_wp2_with fail
      refine (scount_nil _).mono ?_
      rintro en w99 ⟨rfl, rfl⟩
      go_wp2_with fail
      clear hz1
      go_ret
      exact ⟨rfl, B3.out⟩

theorem totalGathers_own : ownKnob Try.prog.godebug = none := by kernel_rfl
theorem totalGathers_laid : laidOutB Try.prog = true := by kernel_rfl
theorem totalGathers_types : ∀ t ∈ ([22, 22] : List TypeId), Try.prog.readableRec t = true ∧ t < Try.prog.types.size := by
  simp only [List.mem_cons, List.not_mem_nil, or_false, forall_eq_or_imp, forall_eq]
  exact ⟨⟨by kernel_rfl, of_decide_eq_true (by kernel_rfl)⟩, ⟨by kernel_rfl, of_decide_eq_true (by kernel_rfl)⟩⟩
set_option maxRecDepth 100000 in
theorem totalGathers_lifted (os : Os) (started : os.Started) (H : Type) (enc : TypeId × Value → H) :
    ReturnsInHanded {} Try.checked os 7 .any (Rows.totalGathersSpec.pre6 enc Try.prog Try.f7 Rows.totalGathersRow.domain false) (Rows.totalGathersSpec.post enc Try.prog Try.f7 false true false false) := by
  refine returnsInHanded_of_change_sized (C := Try.checked) totalGathers_own started (by kernel_rfl) Try.func7
    (ChangeSpec.witness6 (enc := enc) (C := Try.checked) false ⟨#[], #[.slice none 0 0, .slice none 0 0], []⟩ 8 (by kernel_rfl) (by kernel_rfl) (by kernel_rfl) (by kernel_rfl)) ?_
  intro W base args ds gs before hval0 hW hcnd hsz hholds
  have hval : ∀ (j : Nat) t v, Try.f7.params[j]? = some t → args[j]? = some v → Value.okWide Try.prog W .any base t v := hval0
  have hW' := hW
  obtain ⟨p, q, hA0, hV, rfl, hfz, hnd⟩ := hW
  have hA : DataW.TrodAll enc Try.prog W 0 (fun _ => true) true Try.f7.params.toList args.toList ds p := hA0
  obtain ⟨rfl, rfl⟩ := trodVars_none hV
  have hpost : ∀ W', Below W.heap.size W W' → Rows.totalGathersSpec.post enc Try.prog Try.f7 false true false false W args (.bool true) W' := fun W' hb => by
    have hlen : ds.length = 2 := by have hh := hA; rw [Try.params7] at hh; obtain ⟨_, _, d0, ds0, _, _, _, rfl, _, _, hh⟩ := trodAll_cons hh; obtain ⟨_, _, d1, ds1, _, _, _, rfl, _, _, hh⟩ := trodAll_cons hh; obtain ⟨_, rfl, _⟩ := trodAll_nil hh; simp
    obtain ⟨e0, e1, rfl⟩ : ∃ e0 e1, ds = [e0, e1] := by match ds, hlen with | [e0, e1], _ => exact ⟨e0, e1, rfl⟩
    exact law_post totalGathers_laid rfl hW' (by rw [Try.params7]; exact totalGathers_types) (tb := 4) (by kernel_rfl) Try.underlying4 rfl rfl rfl hb
  rw [Try.params7] at hA hval
  obtain ⟨v0, vs0, d0, ds0, p0, q0, hargs, rfl, rfl, h0, r0⟩ := trodAll_cons hA
  obtain ⟨v1, vs1, d1, ds1, p1, q1, rfl, rfl, rfl, h1, r1⟩ := trodAll_cons r0
  obtain ⟨rfl, rfl, rfl⟩ := trodAll_nil r1
  obtain rfl : args = #[v0, v1] := by cases args; simp_all
  obtain ⟨A, n, c, y, rfl, hsd, hAt, hy⟩ := open_floats Try.underlying22 Try.underlying24 (by kernel_rfl) (hval 0 22 v0 rfl rfl) h0
  have hnc := len_cap Try.underlying22 h0
  obtain ⟨M, m, d, g, rfl, hsd1, hMt, hg⟩ := open_floats Try.underlying22 Try.underlying24 (by kernel_rfl) (hval 1 22 v1 rfl rfl) h1
  have hmd := len_cap Try.underlying22 h1
  have hlen := sized_list (j := 0) (t := 22) hsz (by kernel_rfl) rfl Try.underlying22 hsd
  rw [show Try.checked.prog.bytesOf 24 = 8 by kernel_rfl] at hlen
  have hlen1 := sized_list (j := 1) (t := 22) hsz (by kernel_rfl) rfl Try.underlying22 hsd1
  rw [show Try.checked.prog.bytesOf 24 = 8 by kernel_rfl] at hlen1
  have := reachBytes_lt
  refine (totalGathers_walk n c m d A M y g W (by omega) (by omega) hnc hmd hAt hMt (fun j hj => f64_wf (hy j hj)) (fun j hj => f64_wf (hg j hj))).mono fun e W' ⟨he, hg⟩ => ?_
  subst he
  exact ⟨_, rfl, hpost _ hg⟩

theorem totalGathers_holds : Rows.TotalGathersSaid :=
  OpenClaim.holds_of_wide 7 Try.f7 rfl rfl rfl rfl rfl rfl rfl ⟨rfl, rfl, rfl, rfl, rfl⟩ rfl rfl rfl rfl rfl (by kernel_rfl) Try.func7 (by kernel_rfl)
    (of_decide_eq_true (by kernel_rfl)) (by unfold Func.isWrapper; first | (rw [if_pos (by decide +kernel)]; kernel_rfl) | (rw [if_neg (by decide +kernel)]; exact ⟨rfl, rfl⟩))
    (fun os started H enc _ => totalGathers_lifted os started H enc)
#print axioms totalGathers_holds
end Go.Proofs.Ytjakjnmfndfehaa
