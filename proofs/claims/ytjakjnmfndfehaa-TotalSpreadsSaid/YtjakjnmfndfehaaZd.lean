/- The sum by sizes: the document. Condition: lists of at most 65536. -/
import Derived.Test.YtjakjnmfndfehaaZe
namespace Go.Pst
theorem less_size {x z : Nat} : (flt .f64 (x % 9223372036854775808) (z % 9223372036854775808) || (feq .f64 (x % 9223372036854775808) (x % 9223372036854775808) && fne .f64 (z % 9223372036854775808) (z % 9223372036854775808))) = decide (ky x < ky z) := by
  rw [fne_self, nan_mod, feq64, nan_mod]
  cases hx : nan64 x
  · cases hz : nan64 z
    · rw [flt_mod hx hz]; simp
    · have h1 := ky_num hx
      rw [decide_eq_true (by rw [ky_none hz]; exact h1)]; simp
  · have h1 := ky_none hx
    have h2 : ky z ≤ 9223372036854775808 := by
      cases hz : nan64 z
      · exact Nat.le_of_lt (ky_num hz)
      · rw [ky_none hz]; exact Nat.le_refl _
    have h3 : flt .f64 (x % 9223372036854775808) (z % 9223372036854775808) = false := by rw [flt64, nan_mod, hx]; rfl
    rw [h3, decide_eq_false (by omega)]; simp
end Go.Pst
namespace Go.Proofs.Ytjakjnmfndfehaa
open Go.RowKit Go.Pst
set_option maxRecDepth 20000
set_option linter.unusedSimpArgs false
set_option linter.unusedVariables false
set_option maxHeartbeats 3000000 in
theorem rbysize_any (n c : Nat) (A : Option Addr) (f : Nat → Nat) (w : World) (hA : FlAt w w.heap.size A n f) (hn : n ≤ 65536) (hf : ∀ j, j < n → f j < 2 ^ 64) :
    Calls Try.prog 23 #[.slice A n c] w (fun en w' => BySizePost f n (fun g => FlLike (keS g n) w en w')) := by
  have HS := Lib.hid (sizes_any n c A f w hA hn hf)
  have HA := Lib.hid hA
  clear hA hf
  unfold BySizePost
  go_enter Try.func23, Try.ntmps23
  go_wp2_with fail
  refine HS.out.mono ?_
  rintro en w1 ⟨v0, rfl, hown, hb1⟩
  obtain ⟨VB, vc, rfl, fv⟩ := flat_of hown
  have B1 := Lib.hid hb1; have FV := Lib.hid fv
  have hz1 := hb1.size
  clear hb1 hown fv
  go_wp2_with fail
  go_loopw [4, 5] (fun v t wr => ∃ (i : Nat) (σ : Nat → Nat) (g cap : Nat), v = .slice (some ⟨g, 0, none⟩) i cap ∧ t = .int .i64 (i : Int) ∧ i ≤ n ∧ wr.ownsRow w1.heap.size 3 1 (.slice (some ⟨g, 0, none⟩) i cap) i (ints σ i) ∧ Below w1.heap.size w1 wr ∧ Pm 0 i σ ∧ Srt (fun i => ky (fcut f n i)) σ 0 i) (fun _ t _ => n - (intOf t).toNat)
  case atStart => exact ⟨0, fun p => p, _, _, rfl, rfl, by omega, World.ownsRow_made _ #[] 0 (Nat.le_refl _) (by simp [maxLen]) rfl, (Below.refl _ _).alloc (Nat.le_refl _) _, Pm.same _ _, fun p q _ _ h => by omega⟩
  case round =>
    obtain ⟨i, σ, g, cap, rfl, rfl, hi, hown, hbw, hpm, hsr⟩ := hrel
    have PM := Lib.hid hpm; have SR := Lib.hid hsr
    obtain ⟨_, _, _, hcap, _⟩ := int_of hown
    have hcap : i ≤ cap := by
      obtain ⟨B', cb, e, h1, h2⟩ := int_of hown
      injection e with _ _ e; omega
    have hg := hown.lt g rfl
    have CI0 := Lib.hid (fun (q : Nat) (hq : q < i) => own_cell hown (ints_get σ hq))
    have BV := Lib.hid hbw
    have hszo := hbw.size
    clear hown hbw hpm hsr
    obtain ⟨hg1, hg2⟩ := hg
    by_cases hin : i < n
    · have k1 : (i : Int) < (n : Int) := by omega
      have k0 : (0 : Int) ≤ (i : Int) := by omega
      obtain ⟨sb, so, rfl, hsb, hsc⟩ := FV.out (by omega)
      have CS : Hid (∀ q, q < n → wr.cell? ⟨sb, so + q, none⟩ = some (.float .f64 (f q % 9223372036854775808))) := Lib.hid (fun q hq => (BV.out.cell (p := ⟨sb, so + q, none⟩) hsb).trans (hsc q hq))
      have hsbo : sb < wr.heap.size := by omega
      clear hsc
      obtain ⟨wo, rfl⟩ : ∃ wo : World, wo = wr := ⟨_, rfl⟩
      go_wp2_with fail
      go_loopw [6] (fun t wr => ∃ at' : Nat, t = .int .i64 (at' : Int) ∧ at' ≤ i ∧ (at' < i → ky (fcut f n i) < ky (fcut f n (σ at'))) ∧ Below wo.heap.size wo wr) (fun t _ => (intOf t).toNat)
      case atStart => exact ⟨i, rfl, by omega, fun h => by omega, Below.refl _ _⟩
      case round =>
        obtain ⟨at', rfl, hat, hup, hbw⟩ := hrel
        have BW := Lib.hid hbw; have UP := Lib.hid hup
        have hsz := hbw.size
        clear hbw hup
        obtain ⟨r, hr⟩ : ∃ r, r = decide (0 < at' ∧ ky (fcut f n i) < ky (fcut f n (σ (at' - 1)))) := ⟨_, rfl⟩
        have HR := Lib.hid hr
        clear hr
        go_upto_region 7 with fail
        go_cut [66] (fun t wx => t = .bool r ∧ Below wo.heap.size wo wx)
        case first =>
          as_aux_lemma =>
            by_cases ha0 : 0 < at'
            · obtain ⟨l, rfl⟩ : ∃ l, at' = l + 1 := ⟨at' - 1, by omega⟩
              have g1 : decide ((l : Int) + 1 > 0) = true := decide_eq_true (by omega)
              have g2 : (0 : Int) < (l : Int) + 1 := by omega
              obtain ⟨q, hq⟩ : ∃ q, q = σ l := ⟨_, rfl⟩
              have hqi : q < i := by rw [hq]; exact (PM.out.mem (Nat.zero_le _) (by omega)).2
              have c1 := (BW.out.cell (p := ⟨g, l, none⟩) hg2).trans (CI0.out l (by omega))
              rw [← hq] at c1
              have c2 := (BW.out.cell (p := ⟨sb, so + i, none⟩) hsbo).trans (CS.out i hin)
              have c3 := (BW.out.cell (p := ⟨sb, so + q, none⟩) hsbo).trans (CS.out q (by omega))
              have LSZ := Lib.hid (less_size (x := f i) (z := f q))
              have g3 : (0 : Int) ≤ (l : Int) := by omega
              have g4 : (l : Int) < (i : Int) := by omega
              have g5 : (0 : Int) ≤ (q : Int) := by omega
              have g6 : (q : Int) < (n : Int) := by omega
              have hgw : g < wr.heap.size := by omega
              have hsw : sb < wr.heap.size := by omega
              generalize f i % 9223372036854775808 = X at *
              generalize f q % 9223372036854775808 = Z at *
              have HQ := Lib.hid hq
              clear hq
              have RES0 : r = (flt .f64 X Z || (feq .f64 X X && fne .f64 Z Z)) := by
                have h := HR.out
                rw [Nat.add_sub_cancel, fcut_in hin, fcut_in (show σ l < n by have := HQ.out; omega), ← HQ.out] at h
                rw [h, LSZ.out, decide_eq_decide]
                exact ⟨fun x => x.2, fun x => ⟨ha0, x⟩⟩
              clear LSZ UP HR
              cases e1 : flt .f64 X Z
              · cases e2 : feq .f64 X X
                · have RES : Hid (r = false) := Lib.hid (by rw [RES0, e1, e2]; rfl)
                  clear RES0
                  go_wp2_with fail
                  refine Reg.wp_region_rd (by kernel_rfl) (by kernel_rfl) (fun _ => ?_)
                  repeat (refine Reg.rd_op rfl ?_; apply Exists.intro; apply And.intro; (intro w' hb; have hc := Reg.rd_cells hb; clear hb; go_simp; (try go_bits); first | done | (with_reducible exact rfl)); (intro _ a' ha'; simp only [Act.put, List.setIfInBounds_toArray, List.set_cons_zero, List.set_cons_succ] at ha'; subst ha'))
                  repeat (refine Reg.rd_skip rfl ?_; intro a' ha'; simp only [Act.put, List.setIfInBounds_toArray, List.set_cons_zero, List.set_cons_succ] at ha'; subst ha')
                  repeat (refine Reg.rd_op rfl ?_; apply Exists.intro; apply And.intro; (intro w' hb; have hc := Reg.rd_cells hb; clear hb; go_simp; (try go_bits); first | done | (with_reducible exact rfl)); (intro _ a' ha'; simp only [Act.put, List.setIfInBounds_toArray, List.set_cons_zero, List.set_cons_succ] at ha'; subst ha'))
                  repeat (refine Reg.rd_skip rfl ?_; intro a' ha'; simp only [Act.put, List.setIfInBounds_toArray, List.set_cons_zero, List.set_cons_succ] at ha'; subst ha')
                  repeat (refine Reg.rd_op rfl ?_; apply Exists.intro; apply And.intro; (intro w' hb; have hc := Reg.rd_cells hb; clear hb; go_simp; (try go_bits); first | done | (with_reducible exact rfl)); (intro _ a' ha'; simp only [Act.put, List.setIfInBounds_toArray, List.set_cons_zero, List.set_cons_succ] at ha'; subst ha'))
                  refine Reg.rd_end (fun wz hb => ?_)
                  have BQ := Lib.hid (BW.out.trans (hb.mono hsz))
                  clear hb
                  clear c1 c2 c3
                  go_wp2_with fail
                  go_meet
                  case rel => exact ⟨by rw [RES.out], BQ.out⟩
                · cases e3 : fne .f64 Z Z
                  · have RES : Hid (r = false) := Lib.hid (by rw [RES0, e1, e2, e3]; rfl)
                    clear RES0
                    go_wp2_with fail
                    refine Reg.wp_region_rd (by kernel_rfl) (by kernel_rfl) (fun _ => ?_)
                    repeat (refine Reg.rd_op rfl ?_; apply Exists.intro; apply And.intro; (intro w' hb; have hc := Reg.rd_cells hb; clear hb; go_simp; (try go_bits); first | done | (with_reducible exact rfl)); (intro _ a' ha'; simp only [Act.put, List.setIfInBounds_toArray, List.set_cons_zero, List.set_cons_succ] at ha'; subst ha'))
                    repeat (refine Reg.rd_skip rfl ?_; intro a' ha'; simp only [Act.put, List.setIfInBounds_toArray, List.set_cons_zero, List.set_cons_succ] at ha'; subst ha')
                    repeat (refine Reg.rd_op rfl ?_; apply Exists.intro; apply And.intro; (intro w' hb; have hc := Reg.rd_cells hb; clear hb; go_simp; (try go_bits); first | done | (with_reducible exact rfl)); (intro _ a' ha'; simp only [Act.put, List.setIfInBounds_toArray, List.set_cons_zero, List.set_cons_succ] at ha'; subst ha'))
                    repeat (refine Reg.rd_skip rfl ?_; intro a' ha'; simp only [Act.put, List.setIfInBounds_toArray, List.set_cons_zero, List.set_cons_succ] at ha'; subst ha')
                    repeat (refine Reg.rd_op rfl ?_; apply Exists.intro; apply And.intro; (intro w' hb; have hc := Reg.rd_cells hb; clear hb; go_simp; (try go_bits); first | done | (with_reducible exact rfl)); (intro _ a' ha'; simp only [Act.put, List.setIfInBounds_toArray, List.set_cons_zero, List.set_cons_succ] at ha'; subst ha'))
                    refine Reg.rd_end (fun wz hb => ?_)
                    have BQ := Lib.hid (BW.out.trans (hb.mono hsz))
                    clear hb
                    clear c1 c2 c3
                    go_wp2_with fail
                    go_meet
                    case rel => exact ⟨by rw [RES.out], BQ.out⟩
                  · have RES : Hid (r = true) := Lib.hid (by rw [RES0, e1, e2, e3]; rfl)
                    clear RES0
                    go_wp2_with fail
                    refine Reg.wp_region_rd (by kernel_rfl) (by kernel_rfl) (fun _ => ?_)
                    repeat (refine Reg.rd_op rfl ?_; apply Exists.intro; apply And.intro; (intro w' hb; have hc := Reg.rd_cells hb; clear hb; go_simp; (try go_bits); first | done | (with_reducible exact rfl)); (intro _ a' ha'; simp only [Act.put, List.setIfInBounds_toArray, List.set_cons_zero, List.set_cons_succ] at ha'; subst ha'))
                    repeat (refine Reg.rd_skip rfl ?_; intro a' ha'; simp only [Act.put, List.setIfInBounds_toArray, List.set_cons_zero, List.set_cons_succ] at ha'; subst ha')
                    repeat (refine Reg.rd_op rfl ?_; apply Exists.intro; apply And.intro; (intro w' hb; have hc := Reg.rd_cells hb; clear hb; go_simp; (try go_bits); first | done | (with_reducible exact rfl)); (intro _ a' ha'; simp only [Act.put, List.setIfInBounds_toArray, List.set_cons_zero, List.set_cons_succ] at ha'; subst ha'))
                    repeat (refine Reg.rd_skip rfl ?_; intro a' ha'; simp only [Act.put, List.setIfInBounds_toArray, List.set_cons_zero, List.set_cons_succ] at ha'; subst ha')
                    repeat (refine Reg.rd_op rfl ?_; apply Exists.intro; apply And.intro; (intro w' hb; have hc := Reg.rd_cells hb; clear hb; go_simp; (try go_bits); first | done | (with_reducible exact rfl)); (intro _ a' ha'; simp only [Act.put, List.setIfInBounds_toArray, List.set_cons_zero, List.set_cons_succ] at ha'; subst ha'))
                    refine Reg.rd_end (fun wz hb => ?_)
                    have BQ := Lib.hid (BW.out.trans (hb.mono hsz))
                    clear hb
                    clear c1 c2 c3
                    go_wp2_with fail
                    go_meet
                    case rel => exact ⟨by rw [RES.out], BQ.out⟩
              · have RES : Hid (r = true) := Lib.hid (by rw [RES0, e1]; rfl)
                clear RES0
                go_wp2_with fail
                refine Reg.wp_region_rd (by kernel_rfl) (by kernel_rfl) (fun _ => ?_)
                repeat (refine Reg.rd_op rfl ?_; apply Exists.intro; apply And.intro; (intro w' hb; have hc := Reg.rd_cells hb; clear hb; go_simp; (try go_bits); first | done | (with_reducible exact rfl)); (intro _ a' ha'; simp only [Act.put, List.setIfInBounds_toArray, List.set_cons_zero, List.set_cons_succ] at ha'; subst ha'))
                repeat (refine Reg.rd_skip rfl ?_; intro a' ha'; simp only [Act.put, List.setIfInBounds_toArray, List.set_cons_zero, List.set_cons_succ] at ha'; subst ha')
                repeat (refine Reg.rd_op rfl ?_; apply Exists.intro; apply And.intro; (intro w' hb; have hc := Reg.rd_cells hb; clear hb; go_simp; (try go_bits); first | done | (with_reducible exact rfl)); (intro _ a' ha'; simp only [Act.put, List.setIfInBounds_toArray, List.set_cons_zero, List.set_cons_succ] at ha'; subst ha'))
                repeat (refine Reg.rd_skip rfl ?_; intro a' ha'; simp only [Act.put, List.setIfInBounds_toArray, List.set_cons_zero, List.set_cons_succ] at ha'; subst ha')
                repeat (refine Reg.rd_op rfl ?_; apply Exists.intro; apply And.intro; (intro w' hb; have hc := Reg.rd_cells hb; clear hb; go_simp; (try go_bits); first | done | (with_reducible exact rfl)); (intro _ a' ha'; simp only [Act.put, List.setIfInBounds_toArray, List.set_cons_zero, List.set_cons_succ] at ha'; subst ha'))
                refine Reg.rd_end (fun wz hb => ?_)
                have BQ := Lib.hid (BW.out.trans (hb.mono hsz))
                clear hb
                clear c1 c2 c3
                go_wp2_with fail
                go_meet
                case rel => exact ⟨by rw [RES.out], BQ.out⟩
            · obtain rfl : at' = 0 := by omega
              have RES : Hid (r = false) := Lib.hid (by rw [HR.out]; exact decide_eq_false fun x => absurd x.1 (by omega))
              clear UP HR ha0
              go_wp2_with fail
              refine Reg.wp_region_rd (by kernel_rfl) (by kernel_rfl) (fun _ => ?_)
              repeat (refine Reg.rd_op rfl ?_; apply Exists.intro; apply And.intro; (intro w' hb; have hc := Reg.rd_cells hb; clear hb; go_simp; (try go_bits); first | done | (with_reducible exact rfl)); (intro _ a' ha'; simp only [Act.put, List.setIfInBounds_toArray, List.set_cons_zero, List.set_cons_succ] at ha'; subst ha'))
              repeat (refine Reg.rd_skip rfl ?_; intro a' ha'; simp only [Act.put, List.setIfInBounds_toArray, List.set_cons_zero, List.set_cons_succ] at ha'; subst ha')
              repeat (refine Reg.rd_op rfl ?_; apply Exists.intro; apply And.intro; (intro w' hb; have hc := Reg.rd_cells hb; clear hb; go_simp; (try go_bits); first | done | (with_reducible exact rfl)); (intro _ a' ha'; simp only [Act.put, List.setIfInBounds_toArray, List.set_cons_zero, List.set_cons_succ] at ha'; subst ha'))
              refine Reg.rd_end (fun wz hb => ?_)
              have BQ := Lib.hid (BW.out.trans (hb.mono hsz))
              clear hb
              go_wp2_with fail
              go_meet
              case rel => exact ⟨by rw [RES.out], BQ.out⟩
        case rest =>
          clear BW hsz
          obtain ⟨rfl, hbw⟩ := hcut
          have BW := Lib.hid hbw
          have hsz := hbw.size
          clear hbw
          by_cases hgo : 0 < at' ∧ ky (fcut f n i) < ky (fcut f n (σ (at' - 1)))
          · obtain ⟨ha0, hls⟩ := hgo
            have hr : r = true := by rw [HR.out]; exact decide_eq_true ⟨ha0, hls⟩
            subst hr
            obtain ⟨l, rfl⟩ : ∃ l, at' = l + 1 := ⟨at' - 1, by omega⟩
            rw [Nat.add_sub_cancel] at hls
            have NX := Lib.hid hls
            clear hls HR UP
            go_wp2_with fail
            go_roundw
            case rel => exact ⟨l, by go_num, by omega, fun _ => NX.out, BW.out⟩
            case measure => (simp [intOf] <;> omega)
          · have hr : r = false := by rw [HR.out]; exact decide_eq_false hgo
            subst hr
            have STOP := Lib.hid hgo
            clear hgo HR
            obtain ⟨a, rfl⟩ : ∃ a : Nat, a = at' := ⟨_, rfl⟩
            obtain ⟨wr, rfl⟩ : ∃ w' : World, w' = wc := ⟨_, rfl⟩
            have NP : Hid (Pm 0 (i + 1) (fun p => σ (rotP a i (i + 1) p))) := Lib.hid ((PM.out.wide (Nat.le_refl _) (by omega)).comp ((rotP_pm hat (by omega)).wide (Nat.zero_le _) (Nat.le_refl _)))
            have NS : Hid (Srt (fun i => ky (fcut f n i)) (fun p => σ (rotP a i (i + 1) p)) 0 (i + 1)) := Lib.hid (by
              have hsi : σ i = i := PM.out.out (.inr (Nat.le_refl _))
              refine merge_last SR.out (fun p q h1 h2 h3 h4 => ?_) (Nat.zero_le _) hat (fun h => ?_) (fun h => ?_)
              · obtain rfl : q = i := by omega
                rw [hsi]; exact (PM.out.mem h1 h2).2
              · rw [hsi]
                exact fun hk => STOP.out ⟨h, hk⟩
              · rw [hsi]; exact UP.out h)
            have BWR := Lib.hid (BV.out.trans (BW.out.mono hszo))
            have hgw : g < wr.heap.size := by omega
            have hszr : w1.heap.size ≤ wr.heap.size := by omega
            have CI : Hid (∀ q, q < i → wr.cell? ⟨g, q, none⟩ = some (.int .i64 (σ q : Nat))) := Lib.hid (fun q hq => (BW.out.cell (p := ⟨g, q, none⟩) hg2).trans (CI0.out q hq))
            have hai1 : (a : Int) ≤ (i : Int) := by omega
            have hai2 : (i : Int) ≤ (cap : Int) := by omega
            have hai3 : (a : Int) ≤ (cap : Int) := by omega
            have hai0 : (0 : Int) ≤ (a : Int) := by omega
            clear UP STOP SR CI0 CS BW
            go_wp2_with fail
            refine Reg.wp_region_three [1, 2, 3, 5, 8, 9, 10] [7, 11, 12] 0 4 6 _ _ _ (by kernel_rfl) (by kernel_rfl) rfl rfl rfl (by intro _ _ d _ _ h; cases d <;> exact h) ?_
            simp only [Reg.pick, List.drop_succ_cons, List.drop_zero, List.take_succ_cons, List.take_zero, List.cons_append, List.nil_append]
            repeat (refine Reg.held_op rfl ?_; apply Exists.intro; apply And.intro; (intro w' _; go_simp; first | done | (with_reducible exact rfl)); (intro a' ha'; simp only [Act.put, List.setIfInBounds_toArray, List.set_cons_zero, List.set_cons_succ] at ha'; subst ha'))
            refine Reg.held_end ?_
            have hdr : (wr.drew).heap.size = wr.heap.size := rfl
            have B00 := Lib.hid ((Below.refl wr.heap.size wr).drew)
            have ROW : ∀ W : World, Hid (wr.heap.size ≤ W.heap.size → (W.alloc (.cells #[] 3)).ownsRow wr.heap.size 3 1 (.slice (some ⟨W.heap.size, 0, none⟩) 0 0) 0 (ints σ 0)) := fun W => Lib.hid (fun h => World.ownsRow_made (e := 3) (size := 1) W #[] 0 h (by simp [maxLen]) rfl)
            have OLD : ∀ W : World, Hid (Below wr.heap.size wr W → IntAt W wr.heap.size (some ⟨g, 0, none⟩) a σ) := fun W => Lib.hid (fun h _ => ⟨g, 0, rfl, hgw, fun q hq => by rw [Nat.zero_add]; exact (h.cell (p := ⟨g, q, none⟩) hgw).trans (CI.out q (by omega))⟩)
            refine ⟨ends_build0 rfl rfl ⟨?_, ?_⟩, ?_⟩
            ·
              simp only [Act.put, List.setIfInBounds_toArray, List.set_cons_zero, List.set_cons_succ]
              refine ends_append wr rfl _ _ rfl rfl (B00.out.alloc (by omega) _) _ 0 σ rfl ((ROW _).out (by rw [hdr]; exact Nat.le_refl _)) (some ⟨g, 0, none⟩) a cap wr.heap.size σ rfl ((OLD _).out (B00.out.alloc (by omega) _)) (by omega) ?_
              intro v4 w4 ho4 hb4 hg4
              refine ends_build1 _ (i : Int) rfl rfl rfl ?_
              have P6 := Lib.hid (int_new w4 i)
              have B4 := Lib.hid (hb4.alloc hb4.size (.cells #[.int .i64 (i : Int)] 3))
              have O4 := Lib.hid (ho4.alloc (.cells #[.int .i64 (i : Int)] 3))
              obtain ⟨p6, hp6⟩ : ∃ p, p = w4.heap.size := ⟨_, rfl⟩
              rw [← hp6] at P6 ⊢
              clear ho4 hb4 hg4 B00 ROW OLD hp6
              simp only [Act.put, List.setIfInBounds_toArray, List.set_cons_zero, List.set_cons_succ]
              refine ends_list (ends_append wr rfl _ _ rfl rfl B4.out v4 (0 + a) _ rfl O4.out (some ⟨p6, 0, none⟩) 1 1 _ (fun _ => i) rfl P6.out (by omega) ?_)
              intro v7 w7 ho7 hb7 _
              have O7 := Lib.hid ho7; have B7 := Lib.hid hb7
              clear ho7 hb7
              simp only [Act.put, List.setIfInBounds_toArray, List.set_cons_zero, List.set_cons_succ]
              refine ends_list (ends_append wr rfl _ _ rfl rfl B7.out v7 (0 + a + 1) _ rfl O7.out (if cap = a then some ⟨g, 0, none⟩ else some ⟨g, a, none⟩) (i - a) (cap - a) wr.heap.size (fun q => σ (a + q)) rfl (fun hm => ⟨g, a, if_neg (by omega), hgw, fun q hq => by first | (exfalso; omega) | exact (B7.out.cell (p := ⟨g, a + q, none⟩) hgw).trans (CI.out _ (by omega))⟩) (by omega) ?_)
              intro v11 w11 ho11 hb11 _
              have e11 : 0 + a + 1 + (i - a) = i + 1 := by omega
              have O11 : Hid (w11.ownsRow w1.heap.size 3 1 v11 (i + 1) (ints (fun p => σ (rotP a i (i + 1) p)) (i + 1))) := Lib.hid (by
                have h := own_mono ho11 hszr
                rw [e11] at h
                rwa [ints_congr (f := joinR (joinR (joinR σ 0 σ) (0 + a) fun _ => i) (0 + a + 1) fun q => σ (a + q)) (g := fun p => σ (rotP a i (i + 1) p)) (i + 1) (fun p hp => by
                  unfold joinR rotP
                  rcases Nat.lt_trichotomy p a with h1 | h1 | h1
                  · rw [if_pos (by omega), if_pos (by omega), if_neg (by omega), if_neg (by omega), if_neg (by omega), Nat.sub_zero]
                  · rw [if_pos (by omega), if_neg (by omega), if_pos (by omega), show p + (i - a) = i by omega]
                    exact (PM.out.out (.inr (Nat.le_refl _))).symm
                  · rw [if_neg (by omega), if_neg (by omega), if_pos (by omega)]
                    show σ (a + (p - (0 + a + 1))) = σ (p - (i + 1 - i))
                    congr 1; omega)] at h)
              have B11 := Lib.hid (BWR.out.trans (hb11.mono hszr))
              clear ho11 hb11 e11
              obtain ⟨g2, cap2, rfl, _, _⟩ := O11.out.form (by omega)
              simp only [Act.put, List.setIfInBounds_toArray, List.set_cons_zero, List.set_cons_succ]
              simp only [Reg.pick, List.drop_succ_cons, List.drop_zero, List.take_succ_cons, List.take_zero, List.cons_append, List.nil_append]
              go_wp2_with fail
              go_roundw
              case rel => exact ⟨i + 1, fun p => σ (rotP a i (i + 1) p), g2, cap2, rfl, by go_num, by omega, O11.out, B11.out, NP.out, NS.out⟩
              case measure => (simp [intOf] <;> omega)
            ·
              simp only [Act.put, List.setIfInBounds_toArray, List.set_cons_zero, List.set_cons_succ]
              refine ends_build1 _ (i : Int) rfl rfl rfl ?_
              simp only [Act.put, List.setIfInBounds_toArray, List.set_cons_zero, List.set_cons_succ]
              have BB := Lib.hid (B00.out.alloc (by omega) (.cells #[] 3))
              have BB2 := Lib.hid (BB.out.alloc (by simp) (.cells #[.int .i64 (i : Int)] 3))
              refine ends_append wr rfl _ _ rfl rfl BB2.out (.slice (some ⟨wr.drew.heap.size, 0, none⟩) 0 0) 0 σ rfl (((ROW _).out (by rw [hdr]; exact Nat.le_refl _)).alloc _) (some ⟨g, 0, none⟩) a cap wr.heap.size σ rfl ((OLD _).out BB2.out) (by omega) ?_
              intro v4 w4 ho4 hb4 hg4
              have P6 := Lib.hid ((int_new (wr.drew.alloc (.cells #[] 3)) i).grown hg4 (by simp) (fun b off e => by
                injection e with e; injection e with e1
                rw [← e1]
                simp [Value.ownBlock]))
              have B4 := Lib.hid hb4
              have O4 := Lib.hid ho4
              obtain ⟨p6, hp6⟩ : ∃ p, p = (wr.drew.alloc (.cells #[] 3)).heap.size := ⟨_, rfl⟩
              rw [← hp6] at P6 ⊢
              clear ho4 hb4 hg4 B00 ROW OLD hp6 BB BB2
              simp only [Act.put, List.setIfInBounds_toArray, List.set_cons_zero, List.set_cons_succ]
              refine ends_list (ends_append wr rfl _ _ rfl rfl B4.out v4 (0 + a) _ rfl O4.out (some ⟨p6, 0, none⟩) 1 1 _ (fun _ => i) rfl P6.out (by omega) ?_)
              intro v7 w7 ho7 hb7 _
              have O7 := Lib.hid ho7; have B7 := Lib.hid hb7
              clear ho7 hb7
              simp only [Act.put, List.setIfInBounds_toArray, List.set_cons_zero, List.set_cons_succ]
              refine ends_list (ends_append wr rfl _ _ rfl rfl B7.out v7 (0 + a + 1) _ rfl O7.out (if cap = a then some ⟨g, 0, none⟩ else some ⟨g, a, none⟩) (i - a) (cap - a) wr.heap.size (fun q => σ (a + q)) rfl (fun hm => ⟨g, a, if_neg (by omega), hgw, fun q hq => by first | (exfalso; omega) | exact (B7.out.cell (p := ⟨g, a + q, none⟩) hgw).trans (CI.out _ (by omega))⟩) (by omega) ?_)
              intro v11 w11 ho11 hb11 _
              have e11 : 0 + a + 1 + (i - a) = i + 1 := by omega
              have O11 : Hid (w11.ownsRow w1.heap.size 3 1 v11 (i + 1) (ints (fun p => σ (rotP a i (i + 1) p)) (i + 1))) := Lib.hid (by
                have h := own_mono ho11 hszr
                rw [e11] at h
                rwa [ints_congr (f := joinR (joinR (joinR σ 0 σ) (0 + a) fun _ => i) (0 + a + 1) fun q => σ (a + q)) (g := fun p => σ (rotP a i (i + 1) p)) (i + 1) (fun p hp => by
                  unfold joinR rotP
                  rcases Nat.lt_trichotomy p a with h1 | h1 | h1
                  · rw [if_pos (by omega), if_pos (by omega), if_neg (by omega), if_neg (by omega), if_neg (by omega), Nat.sub_zero]
                  · rw [if_pos (by omega), if_neg (by omega), if_pos (by omega), show p + (i - a) = i by omega]
                    exact (PM.out.out (.inr (Nat.le_refl _))).symm
                  · rw [if_neg (by omega), if_neg (by omega), if_pos (by omega)]
                    show σ (a + (p - (0 + a + 1))) = σ (p - (i + 1 - i))
                    congr 1; omega)] at h)
              have B11 := Lib.hid (BWR.out.trans (hb11.mono hszr))
              clear ho11 hb11 e11
              obtain ⟨g2, cap2, rfl, _, _⟩ := O11.out.form (by omega)
              simp only [Act.put, List.setIfInBounds_toArray, List.set_cons_zero, List.set_cons_succ]
              simp only [Reg.pick, List.drop_succ_cons, List.drop_zero, List.take_succ_cons, List.take_zero, List.cons_append, List.nil_append]
              go_wp2_with fail
              go_roundw
              case rel => exact ⟨i + 1, fun p => σ (rotP a i (i + 1) p), g2, cap2, rfl, by go_num, by omega, O11.out, B11.out, NP.out, NS.out⟩
              case measure => (simp [intOf] <;> omega)
            ·
              refine ends_build1 _ (i : Int) rfl rfl rfl ?_
              simp only [Act.put, List.setIfInBounds_toArray, List.set_cons_zero, List.set_cons_succ]
              refine ends_build0 rfl rfl ?_
              simp only [Act.put, List.setIfInBounds_toArray, List.set_cons_zero, List.set_cons_succ]
              have BB := Lib.hid (B00.out.alloc (by omega) (.cells #[.int .i64 (i : Int)] 3))
              have BB2 := Lib.hid (BB.out.alloc (by simp) (.cells #[] 3))
              refine ends_append wr rfl _ _ rfl rfl BB2.out (.slice (some ⟨(wr.drew.alloc (.cells #[.int .i64 (i : Int)] 3)).heap.size, 0, none⟩) 0 0) 0 σ rfl ((ROW _).out (by simp)) (some ⟨g, 0, none⟩) a cap wr.heap.size σ rfl ((OLD _).out BB2.out) (by omega) ?_
              intro v4 w4 ho4 hb4 hg4
              have P6 := Lib.hid (((int_new wr.drew i).below ((Below.refl _ _).alloc (Nat.le_refl _) (.cells #[] 3)) (by simp)).grown hg4 (by simp) (fun b off e => by
                injection e with e; injection e with e1
                rw [← e1]
                simp [Value.ownBlock]))
              have B4 := Lib.hid hb4
              have O4 := Lib.hid ho4
              obtain ⟨p6, hp6⟩ : ∃ p, p = wr.drew.heap.size := ⟨_, rfl⟩
              rw [← hp6] at P6 ⊢
              clear ho4 hb4 hg4 B00 ROW OLD hp6 BB BB2
              simp only [Act.put, List.setIfInBounds_toArray, List.set_cons_zero, List.set_cons_succ]
              refine ends_list (ends_append wr rfl _ _ rfl rfl B4.out v4 (0 + a) _ rfl O4.out (some ⟨p6, 0, none⟩) 1 1 _ (fun _ => i) rfl P6.out (by omega) ?_)
              intro v7 w7 ho7 hb7 _
              have O7 := Lib.hid ho7; have B7 := Lib.hid hb7
              clear ho7 hb7
              simp only [Act.put, List.setIfInBounds_toArray, List.set_cons_zero, List.set_cons_succ]
              refine ends_list (ends_append wr rfl _ _ rfl rfl B7.out v7 (0 + a + 1) _ rfl O7.out (if cap = a then some ⟨g, 0, none⟩ else some ⟨g, a, none⟩) (i - a) (cap - a) wr.heap.size (fun q => σ (a + q)) rfl (fun hm => ⟨g, a, if_neg (by omega), hgw, fun q hq => by first | (exfalso; omega) | exact (B7.out.cell (p := ⟨g, a + q, none⟩) hgw).trans (CI.out _ (by omega))⟩) (by omega) ?_)
              intro v11 w11 ho11 hb11 _
              have e11 : 0 + a + 1 + (i - a) = i + 1 := by omega
              have O11 : Hid (w11.ownsRow w1.heap.size 3 1 v11 (i + 1) (ints (fun p => σ (rotP a i (i + 1) p)) (i + 1))) := Lib.hid (by
                have h := own_mono ho11 hszr
                rw [e11] at h
                rwa [ints_congr (f := joinR (joinR (joinR σ 0 σ) (0 + a) fun _ => i) (0 + a + 1) fun q => σ (a + q)) (g := fun p => σ (rotP a i (i + 1) p)) (i + 1) (fun p hp => by
                  unfold joinR rotP
                  rcases Nat.lt_trichotomy p a with h1 | h1 | h1
                  · rw [if_pos (by omega), if_pos (by omega), if_neg (by omega), if_neg (by omega), if_neg (by omega), Nat.sub_zero]
                  · rw [if_pos (by omega), if_neg (by omega), if_pos (by omega), show p + (i - a) = i by omega]
                    exact (PM.out.out (.inr (Nat.le_refl _))).symm
                  · rw [if_neg (by omega), if_neg (by omega), if_pos (by omega)]
                    show σ (a + (p - (0 + a + 1))) = σ (p - (i + 1 - i))
                    congr 1; omega)] at h)
              have B11 := Lib.hid (BWR.out.trans (hb11.mono hszr))
              clear ho11 hb11 e11
              obtain ⟨g2, cap2, rfl, _, _⟩ := O11.out.form (by omega)
              simp only [Act.put, List.setIfInBounds_toArray, List.set_cons_zero, List.set_cons_succ]
              simp only [Reg.pick, List.drop_succ_cons, List.drop_zero, List.take_succ_cons, List.take_zero, List.cons_append, List.nil_append]
              go_wp2_with fail
              go_roundw
              case rel => exact ⟨i + 1, fun p => σ (rotP a i (i + 1) p), g2, cap2, rfl, by go_num, by omega, O11.out, B11.out, NP.out, NS.out⟩
              case measure => (simp [intOf] <;> omega)
    · obtain rfl : i = n := by omega
      have k1 : ¬ (i : Int) < (i : Int) := by omega
      obtain ⟨wo, rfl⟩ : ∃ wo : World, wo = wr := ⟨_, rfl⟩
      go_wp2_with fail
      go_loopw [7, 8] (fun v t wr => ∃ (k : Nat) (u : Value), t = .int .i64 (k : Int) ∧ k ≤ i ∧ Below wo.heap.size wo wr ∧ u = v ∧ wr.ownsRow wo.heap.size 24 1 u k (nums (fun p => fcut f i (σ p)) k)) (fun _ t _ => i - (intOf t).toNat)
      case atStart => exact ⟨0, _, rfl, by omega, (Below.refl _ _).alloc (Nat.le_refl _) _, rfl, World.ownsRow_made _ #[] 0 (Nat.le_refl _) (by simp [maxLen]) rfl⟩
      case round =>
        obtain ⟨k, u, rfl, hk, hbw, rfl, hown⟩ := hrel
        have BW := Lib.hid hbw; have OW := Lib.hid hown
        have hsz := hbw.size
        clear hbw hown
        by_cases hkn : k < i
        · have h3 : (k : Int) < (i : Int) := by omega
          have h0 : (0 : Int) ≤ (k : Int) := by omega
          obtain ⟨q, hq⟩ : ∃ q, q = σ k := ⟨_, rfl⟩
          have hqi : q < i := by rw [hq]; exact (PM.out.mem (Nat.zero_le _) hkn).2
          have c1 := (BW.out.cell (p := ⟨g, k, none⟩) hg2).trans (CI0.out k hkn)
          rw [← hq] at c1
          obtain ⟨a, o, rfl, ha, hc⟩ := (HA.out.below (B1.out.trans ((BV.out.mono hz1).trans (BW.out.mono (Nat.le_trans hz1 hszo)))) (Nat.le_refl _)) (by omega)
          have c2 := hc q hqi
          have HZ : Hid (f q = fcut f i (σ k)) := Lib.hid (by rw [← hq, fcut_in hqi])
          have g5 : (0 : Int) ≤ (q : Int) := by omega
          have g6 : (q : Int) < (i : Int) := by omega
          have hgw : g < wr.heap.size := by omega
          have haw : a < wr.heap.size := by omega
          generalize f q = z at *
          clear hc hq
          go_wp2_with (at_builtin
                       refine wpList_floats wo _ rfl _ _ rfl rfl (BW.out.alloc (by simpa using BW.out.size) _) _ k (fun p => fcut f i (σ p)) rfl (OW.out.alloc _) (some ⟨wr.heap.size, 0, none⟩) 1 1 (wr.heap.size + 1) (fun _ => z) rfl ?q8 (by omega) ?_
                       case q8 => exact flat_new wr 24 z
                       intro v1 w9 ho1 hb1
                       have O1 := Lib.hid ho1
                       have BN := Lib.hid hb1
                       clear ho1 hb1)
          have O2 : Hid (w9.ownsRow wo.heap.size 24 1 v1 (k + 1) (nums (fun p => fcut f i (σ p)) (k + 1))) := Lib.hid (by
            have := O1.out
            rwa [nums_congr (f := joinR (fun p => fcut f i (σ p)) k fun _ => z) (g := fun p => fcut f i (σ p)) (k + 1) (fun j hj => by
              unfold joinR
              split
              · rfl
              · rw [HZ.out, show j = k by omega])] at this)
          clear O1 c1 c2
          go_wp2_with fail
          go_roundw
          case rel => exact ⟨k + 1, _, by go_num, by omega, BN.out, rfl, O2.out⟩
          case measure => (simp [intOf] <;> omega)
        · obtain rfl : k = i := by omega
          have h3 : ¬ (k : Int) < (k : Int) := by omega
          obtain ⟨VB2, vc2, rfl, fv2⟩ := flat_of OW.out
          have FV2 := Lib.hid fv2
          clear fv2
          go_wp2_with fail
          refine (rsum_any k vc2 VB2 (fun p => fcut f k (σ p)) _ FV2.out hn).mono ?_
          rintro en w3 ⟨u, rfl, hu, hb3⟩
          have HU := Lib.hid hu
          have B3 := Lib.hid (B1.out.trans ((BV.out.mono hz1).trans ((BW.out.mono (Nat.le_trans hz1 hszo)).trans (hb3.mono (by omega)))))
          clear hu hb3
          go_wp2_with fail
          go_ret
          exact ⟨σ, PM.out, SR.out, u, rfl, HU.out, B3.out⟩
end Go.Proofs.Ytjakjnmfndfehaa
