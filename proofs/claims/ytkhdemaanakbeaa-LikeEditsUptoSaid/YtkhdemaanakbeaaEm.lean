/- How the one name becomes the other, in the document: walk. Conditions: the names and the rows are not too many, the rows rise, the cost of another letter is of 64 bits. -/
import Derived.Test.YtkhdemaanakbeaaLy
import Derived.Test.YtkhdemaanakbeaaEk
namespace Go.Proofs.Ytkhdemaanakbeaa
open Go.RowKit Go.Pst
set_option maxRecDepth 20000
set_option linter.unusedSimpArgs false
set_option linter.unusedVariables false
/-- Where the document's table lies. -/
def TabC (w : World) (B : Nat) (D : Option Addr) (n m : Nat) (T : Nat → Nat → Nat) : Prop :=
  ∃ (d : Nat) (R C : Nat → Nat), D = some ⟨d, 0, none⟩ ∧ d < B ∧ ∀ i, i ≤ n → w.cell? ⟨d, i, none⟩ = some (.slice (some ⟨R i, 0, none⟩) (m + 1) (C i)) ∧ R i < B ∧ ∀ j, j ≤ m → ∃ x, w.cell? ⟨R i, j, none⟩ = some (.float .f64 x) ∧ cb x = T i j
theorem TabC.below {w w' : World} {B B' : Nat} {D : Option Addr} {n m : Nat} {T : Nat → Nat → Nat} (h : TabC w B D n m T) (hb : Below B' w w') (hB : B ≤ B') : TabC w' B D n m T := by
  obtain ⟨d, R, C, rfl, h1, h2⟩ := h
  refine ⟨d, R, C, rfl, h1, fun i hi => ?_⟩
  obtain ⟨e1, e2, e3⟩ := h2 i hi
  refine ⟨(hb.cell (show d < B' by omega)).trans e1, e2, fun j hj => ?_⟩
  obtain ⟨x, f1, f2⟩ := e3 j hj
  exact ⟨x, (hb.cell (show R i < B' by omega)).trans f1, f2⟩
theorem RTablePost2.tab {T : Nat → Nat → Nat} {n m : Nat} {w : World} {en : Ending} {w' : World} (h : RTablePost2 T n m w en w') : ∃ A cap, en = .returned (.slice A (n + 1) cap) ∧ Below w.heap.size w w' ∧ TabC w' w'.heap.size A n m T := by
  obtain ⟨g, cap, R, C, rfl, hb, ho, hr⟩ := h
  refine ⟨_, cap, rfl, hb, g, R, C, rfl, ?_, fun i hi => ⟨own_cell ho (rows_get R C (m + 1) (by omega)), hr.lt (by omega), fun j hj => hr.cell (by omega) (by omega)⟩⟩
  obtain ⟨g', cap', hv, -, hlt⟩ := ho.form (by omega)
  have : g = g' := by injection hv with h1; injection h1 with h1; injection h1
  omega
theorem own_slice_le {g n c q B : Nat} (e : (Value.slice (some ⟨g, 0, none⟩) n c).ownBlock = some q) (h : B ≤ g) : B ≤ q := by
  have e2 : g = q := by simpa [Value.ownBlock] using e
  omega
theorem flatE_front (E : Nat → Int × Int × Int) : ∀ n, flatE E (n + 1) = [.int .i64 (E 0).1, .int .i32 (E 0).2.1, .int .i32 (E 0).2.2] ++ flatE (fun t => E (t + 1)) n
  | 0 => rfl
  | n + 1 => by
    have h := flatE_front E n
    show flatE E (n + 1) ++ _ = _ ++ (flatE (fun t => E (t + 1)) n ++ _)
    rw [h, List.append_assoc]
theorem flatE_one (E : Nat → Int × Int × Int) (n : Nat) : ∀ u ∈ flatE E n, u.oneCell' = true := by
  intro u hu
  induction n with
  | zero => cases hu
  | succ n ih =>
    have e : flatE E (n + 1) = flatE E n ++ [.int .i64 (E n).1, .int .i32 (E n).2.1, .int .i32 (E n).2.2] := rfl
    rw [e, List.mem_append] at hu
    rcases hu with hu | hu
    · exact ih hu
    · simp at hu; rcases hu with rfl | rfl | rfl <;> rfl
theorem infoRef : (Try.prog.info? 80).map (fun i => (i.zero, i.size, i.bytes)) = some (some (.agg #[.int .i64 0, .int .i32 0, .int .i32 0]), 3, 16) := by kernel_rfl
def REditsPost (P : Nat → Nat × Nat) (E : Nat → Int × Int × Int) (w : World) (en : Ending) (w' : World) : Prop :=
  Below w.heap.size w w' ∧ ∃ K A c, K ≤ 2097152 ∧ en = .returned (.slice A K c) ∧ EndK P K ∧ EdAt w' w'.heap.size A K fun t => E (K - 1 - t)
attribute [local go_sem] run_fadd
set_option maxHeartbeats 4000000 in
theorem redits_any (cI cO cX cT n m c d np cp : Nat) (A B Ap : Option Addr) (p : Nat → Int × Int × Nat) (fa fb : Nat → Int) (w : World) (hA : NameAt w w.heap.size A n fa) (hB : NameAt w w.heap.size B m fb)
    (hn : n ≤ 1048576) (hm : m ≤ 1048576) (hnp : np ≤ 4096) (hp : PairsAt w w.heap.size Ap np p) (hr : Rising np p) (lX : cX < 2 ^ 64) :
    Calls Try.prog 35 #[.agg #[.float .f64 cI, .float .f64 cO, .float .f64 cX, .float .f64 cT, .slice Ap np cp], .slice A n c, .slice B m d] w
      (REditsPost (poK (tabT cI cO cX cT p np fa fb) cO cX cT p np fa fb n m) (seK (tabT cI cO cX cT p np fa fb) cO cX cT p np fa fb n m) w) := by
  have htab := fun w hA hB hp => rtable2_any cI cO cX cT n m c d np cp A B Ap p fa fb (tabT cI cO cX cT p np fa fb) w hA hB hn hm hnp hp hr (tabT_is ..) lX
  have hTL := fun i j => (tabT_is cI cO cX cT p np fa fb).lt i j
  generalize tabT cI cO cX cT p np fa fb = T at *
  have HTB := Lib.hid htab; have HP := Lib.hid hp; have HA := Lib.hid hA; have HB := Lib.hid hB; have HR := Lib.hid hr; have TL := Lib.hid hTL
  clear htab hp hA hB hr hTL
  obtain ⟨i0, hi0, hz0, hz1, hz2⟩ := info_parts infoRef
  have I0 := Lib.hid hi0; have I1 := Lib.hid hz0; have I2 := Lib.hid hz1; have I3 := Lib.hid hz2
  clear hi0 hz0 hz1 hz2
  have HPO : Hid (∀ k, poK T cO cX cT p np fa fb n m (k + 1) = prK (bkK T cO cX cT p np fa fb (poK T cO cX cT p np fa fb n m k).1 (poK T cO cX cT p np fa fb n m k).2) (poK T cO cX cT p np fa fb n m k).1 (poK T cO cX cT p np fa fb n m k).2) := Lib.hid fun _ => rfl
  have HSE : Hid (∀ k, seK T cO cX cT p np fa fb n m k = edK fa fb (bkK T cO cX cT p np fa fb (poK T cO cX cT p np fa fb n m k).1 (poK T cO cX cT p np fa fb n m k).2) (poK T cO cX cT p np fa fb n m k).1 (poK T cO cX cT p np fa fb n m k).2) := Lib.hid fun _ => rfl
  have HP0 : Hid (poK T cO cX cT p np fa fb n m 0 = (n, m)) := Lib.hid rfl
  generalize poK T cO cX cT p np fa fb n m = P at *
  generalize seK T cO cX cT p np fa fb n m = E at *
  go_enter Try.func35, Try.ntmps35
  go_wp2_with fail
  have O := (Reg.Own.nil w).alloc rfl #[.float .f64 cI, .float .f64 cO, .float .f64 cX, .float .f64 cT, .slice Ap np cp] 39
  obtain ⟨c0, f0, z0, y0, -, zz⟩ := O.rules
  have HO := Lib.hid O; clear O
  refine (HTB.out _ ((HA.out.below HO.out.below (Nat.le_refl _)).more HO.out.size) ((HB.out.below HO.out.below (Nat.le_refl _)).more HO.out.size) ((HP.out.below HO.out.below (Nat.le_refl _)).more HO.out.size)).mono ?_
  intro en w2 hpost
  obtain ⟨D, Dc, rfl, hbt, htc⟩ := hpost.tab
  have G := Lib.hid htc
  have O := HO.out.keep hbt
  clear HO c0 f0 z0 y0 zz
  obtain ⟨c0, f0, z0, y0, -, zz⟩ := O.rules
  have HO := Lib.hid O; clear O
  clear hbt htc hpost
  have B2 := Lib.hid HO.out.below
  have bx : ∀ k, w2.cell? ⟨w.heap.size, k, none⟩ = #[.float .f64 cI, .float .f64 cO, .float .f64 cX, .float .f64 cT, .slice Ap np cp][k]? := c0
  have BX := Lib.hid bx
  have zl := z0
  clear c0 f0 y0 zz bx z0 HO
  go_wp2_with fail
  go_loopw [8, 9, 10] (fun lv s t wr => ∃ (k i j g cap : Nat), (Value.slice (some ⟨g, 0, none⟩) k cap) = lv ∧ s = .int .i64 (i : Int) ∧ t = .int .i64 (j : Int) ∧ P k = (i, j) ∧ i ≤ n ∧ j ≤ m ∧ k + i + j ≤ n + m ∧ (∀ r, r < k → 0 < (P r).1 ∨ 0 < (P r).2) ∧ wr.ownsRow w2.heap.size 80 3 (.slice (some ⟨g, 0, none⟩) k cap) k (flatE (fun t => E (k - 1 - t)) k) ∧ Below w2.heap.size w2 wr) (fun _ s t _ => (intOf s).toNat + (intOf t).toNat)
  case atStart => exact ⟨0, n, m, w2.heap.size, 0, rfl, rfl, rfl, HP0.out, by omega, by omega, by omega, fun r hr => by omega, own_made _ _ _ _ _ rfl (Nat.le_refl _), (Below.refl _ _).alloc (Nat.le_refl _) _⟩
  case round =>
    obtain ⟨k, i, j, g, cap, rfl, rfl, rfl, hP, hi, hj, hk, hbef, hown, hbw⟩ := hrel
    have PP := Lib.hid hP; have BF := Lib.hid hbef; have OW := Lib.hid hown; have BW := Lib.hid hbw
    have hsz := hbw.size
    clear hP hbef hown hbw
    by_cases hij : 0 < i ∨ 0 < j
    · have HPN := Lib.hid (HPO.out k)
      have HSN := Lib.hid (HSE.out k)
      rw [PP.out] at HPN HSN
      have HIJ := Lib.hid hij
      obtain ⟨dd, R, C, rfl, hdd, hRR⟩ := G.out
      have HRR := Lib.hid hRR
      clear hRR
      obtain ⟨ri, rl, rc⟩ := HRR.out i hi
      obtain ⟨x, qx, hx⟩ := rc j hj
      have HXT := Lib.hid (cb_cn hx (TL.out i j)).1
      have LX := Lib.hid (cb_cn hx (TL.out i j)).2
      have ri := (BW.out.cell (p := ⟨dd, i, none⟩) hdd).trans ri
      have qx := (BW.out.cell (p := ⟨R i, j, none⟩) rl).trans qx
      have kb : (i : Int) < (n : Int) + 1 ∧ (j : Int) < (m : Int) + 1 ∧ (0 : Int) ≤ (i : Int) ∧ (0 : Int) ≤ (j : Int) := by omega
      obtain ⟨kb1, kb2, kb3, kb4⟩ := kb
      have HSM := Lib.hid fun (y : Nat) (w' : World) (ly : y < 2 ^ 64) => rsame_any y x w' (fun _ => ly) (fun _ => LX.out) (.inl ⟨LX.out, ly⟩)
      have HI := Lib.hid hi; have HJ := Lib.hid hj; have HK := Lib.hid hk
      clear rc hx
      by_cases hi0 : i = 0
      · subst hi0
        have gj : (j : Int) > 0 := by omega
        have gj' : 0 < (j : Int) := gj
        have hj0 : 0 < j := by omega
        have hip : ¬ 0 < 0 := by omega
        have HKA : Hid (bkA T cX p np fa fb 0 j = false) := Lib.hid (by unfold bkA; simp)
        have HKT : Hid (bkT T cT fa fb 0 j = false) := Lib.hid (by unfold bkT tnB; simp)
        have HKO : Hid (bkO T cO 0 j = false) := Lib.hid (by unfold bkO; rw [decide_eq_false (by omega : ¬ j = 0)]; simp)
        clear hij
        go_upto_region 9 with fail
        refine wp_world0 (fun W' => Reg.Own wr W' [(wr.heap.size, #[.int .i64 0, .int .i32 0, .int .i32 0], 80)]) ((Reg.Own.nil wr).alloc rfl _ _) ?_
        intro w1 hO
        have O := hO
        obtain ⟨c0, f0, z0, y0, -, zz⟩ := O.rules
        have HO := Lib.hid O; clear O
        clear hO ri qx kb1 kb2 kb3 kb4
        refine Reg.wp_region_rd (by kernel_rfl) (by kernel_rfl) (fun _ => ?_)
        repeat (refine Reg.rd_op rfl ?_; apply Exists.intro; apply And.intro; (intro w' hb; have hc := Reg.rd_cells hb; clear hb; go_simp; (try go_bits); first | done | (with_reducible exact rfl)); (intro _ a' ha'; simp only [Act.put, List.setIfInBounds_toArray, List.set_cons_zero, List.set_cons_succ] at ha'; subst ha'))
        repeat (refine Reg.rd_skip rfl ?_; intro a' ha'; simp only [Act.put, List.setIfInBounds_toArray, List.set_cons_zero, List.set_cons_succ] at ha'; subst ha')
        repeat (refine Reg.rd_op rfl ?_; apply Exists.intro; apply And.intro; (intro w' hb; have hc := Reg.rd_cells hb; clear hb; go_simp; (try go_bits); first | done | (with_reducible exact rfl)); (intro _ a' ha'; simp only [Act.put, List.setIfInBounds_toArray, List.set_cons_zero, List.set_cons_succ] at ha'; subst ha'))
        repeat (refine Reg.rd_skip rfl ?_; intro a' ha'; simp only [Act.put, List.setIfInBounds_toArray, List.set_cons_zero, List.set_cons_succ] at ha'; subst ha')
        repeat (refine Reg.rd_op rfl ?_; apply Exists.intro; apply And.intro; (intro w' hb; have hc := Reg.rd_cells hb; clear hb; go_simp; (try go_bits); first | done | (with_reducible exact rfl)); (intro _ a' ha'; simp only [Act.put, List.setIfInBounds_toArray, List.set_cons_zero, List.set_cons_succ] at ha'; subst ha'))
        refine Reg.rd_end (fun wz hb => ?_)
        have O := HO.out.keep hb
        clear HO c0 f0 z0 y0 zz
        obtain ⟨c0, f0, z0, y0, -, zz⟩ := O.rules
        have HO := Lib.hid O; clear O
        clear hb
        go_upto_region 14 with fail
        have BBC := Lib.hid (B2.out.trans ((BW.out.trans (HO.out.below.mono hsz)).mono B2.out.size))
        have htu := fun (w' : World) (hb' : Below wz.heap.size wz w') => rturned_any A B n m c d 0 j fa fb w' ((HA.out.below (BBC.out.trans (hb'.mono BBC.out.size)) (Nat.le_refl _)).more (Nat.le_trans BBC.out.size hb'.size)) ((HB.out.below (BBC.out.trans (hb'.mono BBC.out.size)) (Nat.le_refl _)).more (Nat.le_trans BBC.out.size hb'.size)) HI.out HJ.out hn hm
        simp only [show ((0 : Nat) : Int) = 0 from rfl, show tnB fa fb 0 j = false from by unfold tnB; simp] at htu
        have HTU := Lib.hid htu
        clear htu
        refine Reg.wp_region_rd (by kernel_rfl) (by kernel_rfl) (fun _ => ?_)
        repeat (refine Reg.rd_op rfl ?_; apply Exists.intro; apply And.intro; (intro w' hb; have hc := Reg.rd_cells hb; clear hb; go_simp; (try go_bits); first | done | (with_reducible exact rfl)); (intro _ a' ha'; simp only [Act.put, List.setIfInBounds_toArray, List.set_cons_zero, List.set_cons_succ] at ha'; subst ha'))
        refine Reg.rd_op rfl ?_; apply Exists.intro; apply And.intro
        · intro w' hb; have hbw := Lib.hid hb; clear hb; go_simp; (try go_bits); exact (HTU.out _ hbw.out)
        intro _ a' ha'; simp only [Act.put, List.setIfInBounds_toArray, List.set_cons_zero, List.set_cons_succ] at ha'; subst ha'
        repeat (refine Reg.rd_op rfl ?_; apply Exists.intro; apply And.intro; (intro w' hb; have hc := Reg.rd_cells hb; clear hb; go_simp; (try go_bits); first | done | (with_reducible exact rfl)); (intro _ a' ha'; simp only [Act.put, List.setIfInBounds_toArray, List.set_cons_zero, List.set_cons_succ] at ha'; subst ha'))
        repeat (refine Reg.rd_skip rfl ?_; intro a' ha'; simp only [Act.put, List.setIfInBounds_toArray, List.set_cons_zero, List.set_cons_succ] at ha'; subst ha')
        repeat (refine Reg.rd_op rfl ?_; apply Exists.intro; apply And.intro; (intro w' hb; have hc := Reg.rd_cells hb; clear hb; go_simp; (try go_bits); first | done | (with_reducible exact rfl)); (intro _ a' ha'; simp only [Act.put, List.setIfInBounds_toArray, List.set_cons_zero, List.set_cons_succ] at ha'; subst ha'))
        refine Reg.rd_end (fun wz hb => ?_)
        have O := HO.out.keep hb
        clear HO c0 f0 z0 y0 zz
        obtain ⟨c0, f0, z0, y0, -, zz⟩ := O.rules
        have HO := Lib.hid O; clear O
        clear hb HTU BBC
        go_upto_region 17 with fail
        refine Reg.wp_region_rd (by kernel_rfl) (by kernel_rfl) (fun _ => ?_)
        repeat (refine Reg.rd_op rfl ?_; apply Exists.intro; apply And.intro; (intro w' hb; have hc := Reg.rd_cells hb; clear hb; go_simp; (try go_bits); first | done | (with_reducible exact rfl)); (intro _ a' ha'; simp only [Act.put, List.setIfInBounds_toArray, List.set_cons_zero, List.set_cons_succ] at ha'; subst ha'))
        repeat (refine Reg.rd_skip rfl ?_; intro a' ha'; simp only [Act.put, List.setIfInBounds_toArray, List.set_cons_zero, List.set_cons_succ] at ha'; subst ha')
        repeat (refine Reg.rd_op rfl ?_; apply Exists.intro; apply And.intro; (intro w' hb; have hc := Reg.rd_cells hb; clear hb; go_simp; (try go_bits); first | done | (with_reducible exact rfl)); (intro _ a' ha'; simp only [Act.put, List.setIfInBounds_toArray, List.set_cons_zero, List.set_cons_succ] at ha'; subst ha'))
        repeat (refine Reg.rd_skip rfl ?_; intro a' ha'; simp only [Act.put, List.setIfInBounds_toArray, List.set_cons_zero, List.set_cons_succ] at ha'; subst ha')
        repeat (refine Reg.rd_op rfl ?_; apply Exists.intro; apply And.intro; (intro w' hb; have hc := Reg.rd_cells hb; clear hb; go_simp; (try go_bits); first | done | (with_reducible exact rfl)); (intro _ a' ha'; simp only [Act.put, List.setIfInBounds_toArray, List.set_cons_zero, List.set_cons_succ] at ha'; subst ha'))
        refine Reg.rd_end (fun wz hb => ?_)
        have O := HO.out.keep hb
        clear HO c0 f0 z0 y0 zz
        obtain ⟨c0, f0, z0, y0, -, zz⟩ := O.rules
        have HO := Lib.hid O; clear O
        clear hb
        obtain ⟨j1, hj1⟩ : ∃ k, k = j - 1 := ⟨_, rfl⟩
        have ej1 : (j : Int) - 1 = (j1 : Int) := by omega
        have BBC := Lib.hid (B2.out.trans ((BW.out.trans (HO.out.below.mono hsz)).mono B2.out.size))
        obtain ⟨gb, ob, rfl, hgb, hcb⟩ := (HB.out.below BBC.out (Nat.le_refl _)) (by omega)
        have qb := hcb j1 (by omega)
        have k1 : (j1 : Int) < (m : Int) ∧ (0 : Int) ≤ (j1 : Int) := by omega
        obtain ⟨k3, k7⟩ := k1
        have qhgb : gb < wz.heap.size := by have := BBC.out.size; omega
        have HJ1 := Lib.hid hj1
        have HLT : Hid (0 ≤ 0 ∧ j1 ≤ j ∧ 0 + j1 < 0 + j) := Lib.hid (by omega)
        have HKK : Hid (bkK T cO cX cT p np fa fb 0 j = 4) := Lib.hid (by unfold bkK; rw [HKA.out, HKT.out, HKO.out]; rfl)
        clear hcb hj1 hi hj hk hj0
        as_aux_lemma =>
          go_upto_region 20 with fail
          refine wp_world0 (fun W' => Reg.Own wr W' [(wr.heap.size, #[.int .i64 4, .int .i32 0, .int .i32 (fb j1)], 80)]) ((((HO.out.set 0 (.int .i64 4)).set 1 (.int .i32 0)).set 2 (.int .i32 (fb j1)))) ?_
          intro w6 hO
          have O := hO
          clear HO c0 f0 z0 y0 zz
          obtain ⟨c0, f0, z0, y0, -, zz⟩ := O.rules
          have HO := Lib.hid O; clear O
          clear hO
          have OWV := Lib.hid (own_below OW.out HO.out.below)
          have BB6 := Lib.hid (BW.out.trans (HO.out.below.mono hsz))
          have hkb := HK.out; have hib := HI.out; have hjb := HJ.out
          have hw62 : w2.heap.size ≤ w6.heap.size := BB6.out.size
          go_wp2_with (at_builtin
                       refine wpList_append_own_at _ rfl _ _ _ rfl w2.heap.size 80 i0 _ 3 16 Try.underlying76 I0.out I1.out I2.out I3.out rfl (by omega) _ 1 [.int .i64 4, .int .i32 0, .int .i32 (fb j1)] rfl (World.ownsRow_lit (base := w2.heap.size) (e := 80) (size := 3) w6 #[.int .i64 4, .int .i32 0, .int .i32 (fb j1)] 1 hw62 (by simp [maxLen]) rfl) ⟨g, 0, none⟩ k cap (flatE (fun t => E (k - 1 - t)) k) rfl (flatE_length _ _) ((OWV.out.alloc _).cells rfl) (flatE_one _ _) (by unfold maxLen; omega) (by omega) (by simp; omega) ?_
                       intro v' w7 hown7 hgrow7 h71 h72
                       have OW7 := Lib.hid hown7; have HG7 := Lib.hid hgrow7
                       clear hown7 hgrow7 h71 h72)
          have he : E k = (4, 0, (fb j1)) := by
            rw [HSN.out]
            show edK fa fb (bkK T cO cX cT p np fa fb 0 j) 0 j = _
            rw [HKK.out]
            (rw [HJ1.out]; rfl)
          have hp : P (k + 1) = (0, j1) := by
            rw [HPN.out]
            show prK (bkK T cO cX cT p np fa fb 0 j) 0 j = _
            rw [HKK.out]
            (rw [HJ1.out]; rfl)
          have h7 : w7.ownsRow w2.heap.size 80 3 v' (k + 1) (flatE (fun t => E (k + 1 - 1 - t)) (k + 1)) := by
            have e1 : flatE (fun t => E (k + 1 - 1 - t)) (k + 1) = [.int .i64 4, .int .i32 0, .int .i32 (fb j1)] ++ flatE (fun t => E (k - 1 - t)) k := by
              rw [flatE_front]
              show ([.int .i64 (E (k + 1 - 1 - 0)).1, .int .i32 (E (k + 1 - 1 - 0)).2.1, .int .i32 (E (k + 1 - 1 - 0)).2.2] : List Value) ++ _ = _
              rw [show k + 1 - 1 - 0 = k by omega, he, flatE_congr k (E := fun t => E (k + 1 - 1 - (t + 1))) (E' := fun t => E (k - 1 - t)) (fun q _ => by show E (k + 1 - 1 - (q + 1)) = E (k - 1 - q); rw [show k + 1 - 1 - (q + 1) = k - 1 - q by omega])]
            rw [e1, Nat.add_comm k 1]; exact OW7.out
          have b7 : Below w2.heap.size w2 w7 := (BB6.out.alloc hw62 _).grown HG7.out (by simp; omega) (fun q e => own_slice_le e hw62)
          have hbf : ∀ r, r < k + 1 → 0 < (P r).1 ∨ 0 < (P r).2 := fun r hr => by
            by_cases e : r = k
            · rw [e, PP.out]; exact HIJ.out
            · exact BF.out r (by omega)
          obtain ⟨g', cap', rfl, -, -⟩ := h7.form (by omega)
          have hlt := HLT.out
          go_roundw
          case rel => exact ⟨k + 1, 0, j1, g', cap', rfl, rfl, rfl, hp, by omega, by omega, by omega, hbf, h7, b7⟩
          case measure => (simp [intOf] <;> omega)
      · have gi : (i : Int) > 0 := by omega
        have gi' : 0 < (i : Int) := gi
        have hip : 0 < i := by omega
        clear hij hi0
        go_upto_region 9 with fail
        refine wp_world0 (fun W' => Reg.Own wr W' [(wr.heap.size, #[.int .i64 0, .int .i32 0, .int .i32 0], 80)]) ((Reg.Own.nil wr).alloc rfl _ _) ?_
        intro w1 hO
        have O := hO
        obtain ⟨c0, f0, z0, y0, -, zz⟩ := O.rules
        have HO := Lib.hid O; clear O
        clear hO ri qx kb1 kb2 kb3 kb4
        obtain ⟨bA, hbA⟩ : ∃ b, b = bkA T cX p np fa fb i j := ⟨_, rfl⟩
        have HBA := Lib.hid hbA
        clear hbA
        go_cut [43] (fun s wx => s = .bool bA ∧ Reg.Own wr wx [(wr.heap.size, #[.int .i64 0, .int .i32 0, .int .i32 0], 80)])
        case first =>
          by_cases hj0 : 0 < j
          · have gj : (j : Int) > 0 := by omega
            have gj' : 0 < (j : Int) := gj
            obtain ⟨i1, hi1⟩ : ∃ k, k = i - 1 := ⟨_, rfl⟩
            obtain ⟨j1, hj1⟩ : ∃ k, k = j - 1 := ⟨_, rfl⟩
            have ei1 : (i : Int) - 1 = (i1 : Int) := by omega
            have ej1 : (j : Int) - 1 = (j1 : Int) := by omega
            have BBW := Lib.hid (BW.out.trans (HO.out.below.mono hsz))
            obtain ⟨r1, r2, r3⟩ := HRR.out i1 (by omega)
            obtain ⟨xx, rx, hxx⟩ := r3 j1 (by omega)
            have r1 := (BBW.out.cell (p := ⟨dd, i1, none⟩) hdd).trans r1
            have rx := (BBW.out.cell (p := ⟨R i1, j1, none⟩) r2).trans rx
            have X1 := Lib.hid (cb_cn hxx (TL.out _ _)).1
            have qr2 : R i1 < w1.heap.size := by have := BBW.out.size; omega
            have qdd : dd < w1.heap.size := by have := BBW.out.size; omega
            have bx : ∀ q, w1.cell? ⟨w.heap.size, q, none⟩ = #[.float .f64 cI, .float .f64 cO, .float .f64 cX, .float .f64 cT, .slice Ap np cp][q]? := fun q => (BBW.out.cell (p := ⟨w.heap.size, q, none⟩) zl).trans (BX.out q)
            have zl2 : w.heap.size < w1.heap.size := by have := BBW.out.size; omega
            have BBW := Lib.hid (B2.out.trans (BBW.out.mono B2.out.size))
            clear r3 hxx
            obtain ⟨ga, oa, rfl, hga, hca⟩ := (HA.out.below BBW.out (Nat.le_refl _)) (by omega)
            obtain ⟨gb, ob, rfl, hgb, hcb⟩ := (HB.out.below BBW.out (Nat.le_refl _)) (by omega)
            have qa := hca i1 (by omega)
            have qb := hcb j1 (by omega)
            obtain ⟨V4, eV4⟩ : ∃ V, V = othV p np cX (fa i1) (fb j1) := ⟨_, rfl⟩
            obtain ⟨V5, eV5⟩ : ∃ V, V = addN (T i1 j1) V4 := ⟨_, rfl⟩
            have hba : bA = (V5 == T i j) := by
              rw [HBA.out, eV5, eV4, hi1, hj1]; unfold bkA; rw [decide_eq_true (by omega : 0 < i), decide_eq_true hj0]; simp
            have HOTH := Lib.hid fun (w' : World) (hb' : Below w1.heap.size w1 w') =>
              (rput2_any cI cO cX cT Ap np cp p (fa i1) (fb j1) w' hnp ((HP.out.below (BBW.out.trans (hb'.mono BBW.out.size)) (Nat.le_refl _)).more (Nat.le_trans BBW.out.size hb'.size)) HR.out lX)
            rw [← eV4] at HOTH
            have cV5 : cn V5 = V5 := by rw [eV5]; exact cn_addN _ _
            have lV5 : V5 < 2 ^ 64 := by rw [eV5]; exact addN_lt _ _
            have E5 := Lib.hid eV5; have C5 := Lib.hid cV5; have HBV := Lib.hid hba; have L5 := Lib.hid lV5
            clear eV5 cV5 lV5 hba
            have qhga : ga < w1.heap.size := by have := BBW.out.size; omega
            have qhgb : gb < w1.heap.size := by have := BBW.out.size; omega
            have k1 : (i1 : Int) < (n : Int) ∧ (j1 : Int) < (m : Int) ∧ (i1 : Int) < (n : Int) + 1 ∧ (j1 : Int) < (m : Int) + 1 ∧ (0 : Int) ≤ (i1 : Int) ∧ (0 : Int) ≤ (j1 : Int) := by omega
            obtain ⟨k2, k3, k4, k5, k6, k7⟩ := k1
            clear hca hcb eV4 hi1 hj1 hi hj hk
            as_aux_lemma =>
              refine Reg2.wp_region_rn [71, 72] (by kernel_rfl) (by kernel_rfl) (fun _ => ?_)
              repeat (refine Reg2.op0e Reg2.rn_class (fun _ _ => trivial) rfl rfl rfl ?_; apply Exists.intro; apply And.intro; (intro w' hb; have hc := Reg2.rd_cells hb; clear hb; go_simp; (try go_bits); first | done | (with_reducible exact rfl)); (intro a' ha'; simp only [Act.put, List.setIfInBounds_toArray, List.set_cons_zero, List.set_cons_succ] at ha'; subst ha'))
              refine Reg2.op0 Reg2.rn_class (fun _ _ => trivial) rfl rfl rfl ⟨.float .f64 (V4), ?_, ?_⟩
              · intro w' hb; have hbw := Lib.hid hb; have hc := Reg2.rd_cells hb; clear hb; go_simp; exact ⟨rfl, (HOTH.out _ hbw.out).mono fun en w'' ⟨u, e1, e2, e4, e3⟩ => ⟨_, e1, .inr ⟨rfl, veq2_of_cn (fun _ => e4) e2⟩, e3⟩⟩
              intro a' ha'; simp only [Act.put, List.setIfInBounds_toArray, List.set_cons_zero, List.set_cons_succ] at ha'; subst ha'
              refine Reg2.op1 Reg2.rn_class (fun _ _ => trivial) rfl rfl 71 _ rfl rfl ⟨.float .f64 (V5), ?_, ?_⟩
              · intro u1 g1 w' hb; obtain ⟨y1, rfl, f1, l1⟩ := cn_of_veq2 g1; clear g1; have hc := Reg2.rd_cells hb; clear hb; have F1 := Lib.hid f1; clear f1; simp only [Act.put, List.setIfInBounds_toArray, List.set_cons_zero, List.set_cons_succ]; go_simp; have f1 := F1.out; exact ⟨wIf_refl _ _, .inr ⟨rfl, veq2_of_cn (fun _ => by first | exact arU_lt _ _ _ _ | exact widU_lt _ _ | assumption) (by rw [E5.out]; exact cn_addU2 _ _ _ _ _ X1.out f1)⟩⟩
              intro a' ha'; simp only [Act.put, List.setIfInBounds_toArray, List.set_cons_zero, List.set_cons_succ] at ha'; subst ha'
              repeat (refine Reg2.op0e Reg2.rn_class (fun _ _ => trivial) rfl rfl rfl ?_; apply Exists.intro; apply And.intro; (intro w' hb; have hc := Reg2.rd_cells hb; clear hb; go_simp; (try go_bits); first | done | (with_reducible exact rfl)); (intro a' ha'; simp only [Act.put, List.setIfInBounds_toArray, List.set_cons_zero, List.set_cons_succ] at ha'; subst ha'))
              refine Reg2.op1 Reg2.rn_class (fun _ _ => trivial) rfl rfl 72 _ rfl rfl ⟨.bool bA, ?_, ?_⟩
              · intro u1 g1 w' hb; obtain ⟨y1, rfl, f1, l1⟩ := cn_of_veq2 g1; clear g1; have hbw := Lib.hid hb; clear hb; have F1 := Lib.hid f1; clear f1; simp only [Act.put, List.setIfInBounds_toArray, List.set_cons_zero, List.set_cons_succ]; go_simp; have f1 := F1.out; exact ⟨rfl, (HSM.out y1 _ (lt_of l1 L5.out)).mono fun en w'' ⟨e1, e2⟩ => ⟨_, e1, .inl (by rw [f1, C5.out, HXT.out, HBV.out]), by subst e2; exact Below.refl _ _⟩⟩
              intro a' ha'; simp only [Act.put, List.setIfInBounds_toArray, List.set_cons_zero, List.set_cons_succ] at ha'; subst ha'
              repeat (refine Reg2.op0e Reg2.rn_class (fun _ _ => trivial) rfl rfl rfl ?_; apply Exists.intro; apply And.intro; (intro w' hb; have hc := Reg2.rd_cells hb; clear hb; go_simp; (try go_bits); first | done | (with_reducible exact rfl)); (intro a' ha'; simp only [Act.put, List.setIfInBounds_toArray, List.set_cons_zero, List.set_cons_succ] at ha'; subst ha'))
              refine Reg2.rn_endv [(71, .float .f64 (V4)), (72, .float .f64 (V5))] rfl (fun wz hb => ?_)
              refine ⟨rfl, fun u hu => ?_⟩
              obtain ⟨z71, rfl, k71, l71⟩ := cn_of_veq2 hu; clear hu
              refine ⟨rfl, fun u hu => ?_⟩
              obtain ⟨z72, rfl, k72, l72⟩ := cn_of_veq2 hu; clear hu
              simp only [Reg2.endv, Act.put, List.setIfInBounds_toArray, List.set_cons_zero, List.set_cons_succ]
              go_wp2_with fail
              go_meet
              case rel => exact ⟨by first | rfl | simp, HO.out.keep hb⟩
          · have gj : ¬ (j : Int) > 0 := by omega
            have gj' : ¬ 0 < (j : Int) := gj
            have HBV : Hid (bA = false) := Lib.hid (by rw [HBA.out]; unfold bkA; rw [decide_eq_false hj0]; simp)
            clear hi hj hk
            refine Reg.wp_region_rd (by kernel_rfl) (by kernel_rfl) (fun _ => ?_)
            repeat (refine Reg.rd_op rfl ?_; apply Exists.intro; apply And.intro; (intro w' hb; have hc := Reg.rd_cells hb; clear hb; go_simp; (try go_bits); first | done | (with_reducible exact rfl)); (intro _ a' ha'; simp only [Act.put, List.setIfInBounds_toArray, List.set_cons_zero, List.set_cons_succ] at ha'; subst ha'))
            repeat (refine Reg.rd_skip rfl ?_; intro a' ha'; simp only [Act.put, List.setIfInBounds_toArray, List.set_cons_zero, List.set_cons_succ] at ha'; subst ha')
            repeat (refine Reg.rd_op rfl ?_; apply Exists.intro; apply And.intro; (intro w' hb; have hc := Reg.rd_cells hb; clear hb; go_simp; (try go_bits); first | done | (with_reducible exact rfl)); (intro _ a' ha'; simp only [Act.put, List.setIfInBounds_toArray, List.set_cons_zero, List.set_cons_succ] at ha'; subst ha'))
            repeat (refine Reg.rd_skip rfl ?_; intro a' ha'; simp only [Act.put, List.setIfInBounds_toArray, List.set_cons_zero, List.set_cons_succ] at ha'; subst ha')
            repeat (refine Reg.rd_op rfl ?_; apply Exists.intro; apply And.intro; (intro w' hb; have hc := Reg.rd_cells hb; clear hb; go_simp; (try go_bits); first | done | (with_reducible exact rfl)); (intro _ a' ha'; simp only [Act.put, List.setIfInBounds_toArray, List.set_cons_zero, List.set_cons_succ] at ha'; subst ha'))
            refine Reg.rd_end (fun wz hb => ?_)
            go_wp2_with fail
            go_meet
            case rel => exact ⟨by rw [HBV.out], HO.out.keep hb⟩
        case rest =>
          obtain ⟨rfl, hO⟩ := hcut
          have O := hO
          clear HO c0 f0 z0 y0 zz
          obtain ⟨c0, f0, z0, y0, -, zz⟩ := O.rules
          have HO := Lib.hid O; clear O
          clear hO
          have BBC := Lib.hid (B2.out.trans ((BW.out.trans (HO.out.below.mono hsz)).mono B2.out.size))
          cases bA
          · have HKA := Lib.hid HBA.out.symm
            clear HBA
            go_upto_region 14 with fail
            obtain ⟨bT, hbT⟩ : ∃ b, b = bkT T cT fa fb i j := ⟨_, rfl⟩
            have HBT := Lib.hid hbT
            clear hbT
            go_cut [103] (fun s wx => s = .bool bT ∧ Reg.Own wr wx [(wr.heap.size, #[.int .i64 0, .int .i32 0, .int .i32 0], 80)])
            case first =>
              have HTU := Lib.hid fun (w' : World) (hb' : Below wc.heap.size wc w') => rturned_any A B n m c d i j fa fb w' ((HA.out.below (BBC.out.trans (hb'.mono BBC.out.size)) (Nat.le_refl _)).more (Nat.le_trans BBC.out.size hb'.size)) ((HB.out.below (BBC.out.trans (hb'.mono BBC.out.size)) (Nat.le_refl _)).more (Nat.le_trans BBC.out.size hb'.size)) HI.out HJ.out hn hm
              cases htn : tnB fa fb i j
              · have HBV : Hid (bT = false) := Lib.hid (by rw [HBT.out]; unfold bkT; rw [htn]; rfl)
                rw [htn] at HTU
                clear htn hi hj hk
                refine Reg.wp_region_rd (by kernel_rfl) (by kernel_rfl) (fun _ => ?_)
                repeat (refine Reg.rd_op rfl ?_; apply Exists.intro; apply And.intro; (intro w' hb; have hc := Reg.rd_cells hb; clear hb; go_simp; (try go_bits); first | done | (with_reducible exact rfl)); (intro _ a' ha'; simp only [Act.put, List.setIfInBounds_toArray, List.set_cons_zero, List.set_cons_succ] at ha'; subst ha'))
                refine Reg.rd_op rfl ?_; apply Exists.intro; apply And.intro
                · intro w' hb; have hbw := Lib.hid hb; clear hb; go_simp; (try go_bits); exact (HTU.out _ hbw.out)
                intro _ a' ha'; simp only [Act.put, List.setIfInBounds_toArray, List.set_cons_zero, List.set_cons_succ] at ha'; subst ha'
                repeat (refine Reg.rd_op rfl ?_; apply Exists.intro; apply And.intro; (intro w' hb; have hc := Reg.rd_cells hb; clear hb; go_simp; (try go_bits); first | done | (with_reducible exact rfl)); (intro _ a' ha'; simp only [Act.put, List.setIfInBounds_toArray, List.set_cons_zero, List.set_cons_succ] at ha'; subst ha'))
                repeat (refine Reg.rd_skip rfl ?_; intro a' ha'; simp only [Act.put, List.setIfInBounds_toArray, List.set_cons_zero, List.set_cons_succ] at ha'; subst ha')
                repeat (refine Reg.rd_op rfl ?_; apply Exists.intro; apply And.intro; (intro w' hb; have hc := Reg.rd_cells hb; clear hb; go_simp; (try go_bits); first | done | (with_reducible exact rfl)); (intro _ a' ha'; simp only [Act.put, List.setIfInBounds_toArray, List.set_cons_zero, List.set_cons_succ] at ha'; subst ha'))
                refine Reg.rd_end (fun wz hb => ?_)
                go_wp2_with fail
                go_meet
                case rel => exact ⟨by rw [HBV.out], HO.out.keep hb⟩
              · have h2 : 1 < i ∧ 1 < j := by have h := htn; unfold tnB at h; simp only [Bool.and_eq_true, decide_eq_true_eq] at h; omega
                obtain ⟨i1, hi1⟩ : ∃ k, k = i - 2 := ⟨_, rfl⟩
                obtain ⟨j1, hj1⟩ : ∃ k, k = j - 2 := ⟨_, rfl⟩
                have ei1 : (i : Int) - 2 = (i1 : Int) := by omega
                have ej1 : (j : Int) - 2 = (j1 : Int) := by omega
                have BBW := Lib.hid (BW.out.trans (HO.out.below.mono hsz))
                obtain ⟨r1, r2, r3⟩ := HRR.out i1 (by omega)
                obtain ⟨xx, rx, hxx⟩ := r3 j1 (by omega)
                have r1 := (BBW.out.cell (p := ⟨dd, i1, none⟩) hdd).trans r1
                have rx := (BBW.out.cell (p := ⟨R i1, j1, none⟩) r2).trans rx
                have X1 := Lib.hid (cb_cn hxx (TL.out _ _)).1
                have qr2 : R i1 < wc.heap.size := by have := BBW.out.size; omega
                have qdd : dd < wc.heap.size := by have := BBW.out.size; omega
                have bx : ∀ q, wc.cell? ⟨w.heap.size, q, none⟩ = #[.float .f64 cI, .float .f64 cO, .float .f64 cX, .float .f64 cT, .slice Ap np cp][q]? := fun q => (BBW.out.cell (p := ⟨w.heap.size, q, none⟩) zl).trans (BX.out q)
                have zl2 : w.heap.size < wc.heap.size := by have := BBW.out.size; omega
                have BBW := Lib.hid (B2.out.trans (BBW.out.mono B2.out.size))
                clear r3 hxx
                obtain ⟨V5, eV5⟩ : ∃ V, V = addN (T i1 j1) cT := ⟨_, rfl⟩
                have hba : bT = (V5 == T i j) := by
                  rw [HBT.out, eV5, hi1, hj1]; unfold bkT; rw [htn]; simp
                rw [htn] at HTU
                have cV5 : cn V5 = V5 := by rw [eV5]; exact cn_addN _ _
                have lV5 : V5 < 2 ^ 64 := by rw [eV5]; exact addN_lt _ _
                have E5 := Lib.hid eV5; have C5 := Lib.hid cV5; have HBV := Lib.hid hba; have L5 := Lib.hid lV5
                clear eV5 cV5 lV5 hba
                have k1 : (i1 : Int) < (n : Int) + 1 ∧ (j1 : Int) < (m : Int) + 1 ∧ (0 : Int) ≤ (i1 : Int) ∧ (0 : Int) ≤ (j1 : Int) := by omega
                obtain ⟨k4, k5, k6, k7⟩ := k1
                clear hi1 hj1 hi hj hk htn h2
                as_aux_lemma =>
                  refine Reg2.wp_region_rn [121] (by kernel_rfl) (by kernel_rfl) (fun _ => ?_)
                  repeat (refine Reg2.op0e Reg2.rn_class (fun _ _ => trivial) rfl rfl rfl ?_; apply Exists.intro; apply And.intro; (intro w' hb; have hc := Reg2.rd_cells hb; clear hb; go_simp; (try go_bits); first | done | (with_reducible exact rfl)); (intro a' ha'; simp only [Act.put, List.setIfInBounds_toArray, List.set_cons_zero, List.set_cons_succ] at ha'; subst ha'))
                  refine Reg2.op0 Reg2.rn_class (fun _ _ => trivial) rfl rfl rfl ⟨.bool true, ?_, ?_⟩
                  · intro w' hb; have hbw := Lib.hid hb; have hc := Reg2.rd_cells hb; clear hb; go_simp; exact ⟨rfl, (HTU.out _ hbw.out).mono fun en w'' ⟨e1, e2⟩ => ⟨_, e1, .inl rfl, e2⟩⟩
                  intro a' ha'; simp only [Act.put, List.setIfInBounds_toArray, List.set_cons_zero, List.set_cons_succ] at ha'; subst ha'
                  repeat (refine Reg2.op0e Reg2.rn_class (fun _ _ => trivial) rfl rfl rfl ?_; apply Exists.intro; apply And.intro; (intro w' hb; have hc := Reg2.rd_cells hb; clear hb; go_simp; (try go_bits); first | done | (with_reducible exact rfl)); (intro a' ha'; simp only [Act.put, List.setIfInBounds_toArray, List.set_cons_zero, List.set_cons_succ] at ha'; subst ha'))
                  refine Reg2.op0 Reg2.rn_class (fun _ _ => trivial) rfl rfl rfl ⟨.float .f64 (V5), ?_, ?_⟩
                  · intro w' hb; have hc := Reg2.rd_cells hb; clear hb; go_simp; exact ⟨wIf_refl _ _, .inr ⟨rfl, veq2_of_cn (fun _ => by first | exact arU_lt _ _ _ _ | exact widU_lt _ _ | assumption) (by rw [E5.out]; exact cn_addU _ _ _ _ X1.out)⟩⟩
                  intro a' ha'; simp only [Act.put, List.setIfInBounds_toArray, List.set_cons_zero, List.set_cons_succ] at ha'; subst ha'
                  repeat (refine Reg2.op0e Reg2.rn_class (fun _ _ => trivial) rfl rfl rfl ?_; apply Exists.intro; apply And.intro; (intro w' hb; have hc := Reg2.rd_cells hb; clear hb; go_simp; (try go_bits); first | done | (with_reducible exact rfl)); (intro a' ha'; simp only [Act.put, List.setIfInBounds_toArray, List.set_cons_zero, List.set_cons_succ] at ha'; subst ha'))
                  refine Reg2.op1 Reg2.rn_class (fun _ _ => trivial) rfl rfl 121 _ rfl rfl ⟨.bool bT, ?_, ?_⟩
                  · intro u1 g1 w' hb; obtain ⟨y1, rfl, f1, l1⟩ := cn_of_veq2 g1; clear g1; have hbw := Lib.hid hb; clear hb; have F1 := Lib.hid f1; clear f1; simp only [Act.put, List.setIfInBounds_toArray, List.set_cons_zero, List.set_cons_succ]; go_simp; have f1 := F1.out; exact ⟨rfl, (HSM.out y1 _ (lt_of l1 L5.out)).mono fun en w'' ⟨e1, e2⟩ => ⟨_, e1, .inl (by rw [f1, C5.out, HXT.out, HBV.out]), by subst e2; exact Below.refl _ _⟩⟩
                  intro a' ha'; simp only [Act.put, List.setIfInBounds_toArray, List.set_cons_zero, List.set_cons_succ] at ha'; subst ha'
                  repeat (refine Reg2.op0e Reg2.rn_class (fun _ _ => trivial) rfl rfl rfl ?_; apply Exists.intro; apply And.intro; (intro w' hb; have hc := Reg2.rd_cells hb; clear hb; go_simp; (try go_bits); first | done | (with_reducible exact rfl)); (intro a' ha'; simp only [Act.put, List.setIfInBounds_toArray, List.set_cons_zero, List.set_cons_succ] at ha'; subst ha'))
                  refine Reg2.rn_endv [(121, .float .f64 (V5))] rfl (fun wz hb => ?_)
                  refine ⟨rfl, fun u hu => ?_⟩
                  obtain ⟨z121, rfl, k121, l121⟩ := cn_of_veq2 hu; clear hu
                  simp only [Reg2.endv, Act.put, List.setIfInBounds_toArray, List.set_cons_zero, List.set_cons_succ]
                  go_wp2_with fail
                  go_meet
                  case rel => exact ⟨by first | rfl | simp, HO.out.keep hb⟩
            case rest =>
              obtain ⟨rfl, hO⟩ := hcut
              have O := hO
              clear HO c0 f0 z0 y0 zz
              obtain ⟨c0, f0, z0, y0, -, zz⟩ := O.rules
              have HO := Lib.hid O; clear O
              clear hO BBC
              have BBC := Lib.hid (B2.out.trans ((BW.out.trans (HO.out.below.mono hsz)).mono B2.out.size))
              cases bT
              · have HKT := Lib.hid HBT.out.symm
                clear HBT
                go_upto_region 17 with fail
                obtain ⟨bO, hbO⟩ : ∃ b, b = bkO T cO i j := ⟨_, rfl⟩
                have HBO := Lib.hid hbO
                clear hbO
                go_cut [140] (fun s wx => s = .bool bO ∧ Reg.Own wr wx [(wr.heap.size, #[.int .i64 0, .int .i32 0, .int .i32 0], 80)])
                case first =>
                  by_cases hj0 : j = 0
                  · have gj' : ((j : Int) == 0) = true := by simp [hj0]
                    have HBV : Hid (bO = true) := Lib.hid (by rw [HBO.out]; unfold bkO; rw [decide_eq_true hj0]; rfl)
                    clear hi hj hk hj0
                    refine Reg.wp_region_rd (by kernel_rfl) (by kernel_rfl) (fun _ => ?_)
                    repeat (refine Reg.rd_op rfl ?_; apply Exists.intro; apply And.intro; (intro w' hb; have hc := Reg.rd_cells hb; clear hb; go_simp; (try go_bits); first | done | (with_reducible exact rfl)); (intro _ a' ha'; simp only [Act.put, List.setIfInBounds_toArray, List.set_cons_zero, List.set_cons_succ] at ha'; subst ha'))
                    repeat (refine Reg.rd_skip rfl ?_; intro a' ha'; simp only [Act.put, List.setIfInBounds_toArray, List.set_cons_zero, List.set_cons_succ] at ha'; subst ha')
                    repeat (refine Reg.rd_op rfl ?_; apply Exists.intro; apply And.intro; (intro w' hb; have hc := Reg.rd_cells hb; clear hb; go_simp; (try go_bits); first | done | (with_reducible exact rfl)); (intro _ a' ha'; simp only [Act.put, List.setIfInBounds_toArray, List.set_cons_zero, List.set_cons_succ] at ha'; subst ha'))
                    refine Reg.rd_end (fun wz hb => ?_)
                    go_wp2_with fail
                    go_meet
                    case rel => exact ⟨by rw [HBV.out], HO.out.keep hb⟩
                  · have gj : ¬ (j : Int) = 0 := by omega
                    have gj' : ((j : Int) == 0) = false := by simp [hj0]
                    obtain ⟨i1, hi1⟩ : ∃ k, k = i - 1 := ⟨_, rfl⟩
                    have ei1 : (i : Int) - 1 = (i1 : Int) := by omega
                    have BBW := Lib.hid (BW.out.trans (HO.out.below.mono hsz))
                    obtain ⟨r1, r2, r3⟩ := HRR.out i1 (by omega)
                    obtain ⟨xx, rx, hxx⟩ := r3 j (by omega)
                    have r1 := (BBW.out.cell (p := ⟨dd, i1, none⟩) hdd).trans r1
                    have rx := (BBW.out.cell (p := ⟨R i1, j, none⟩) r2).trans rx
                    have X1 := Lib.hid (cb_cn hxx (TL.out _ _)).1
                    have qr2 : R i1 < wc.heap.size := by have := BBW.out.size; omega
                    have qdd : dd < wc.heap.size := by have := BBW.out.size; omega
                    have bx : ∀ q, wc.cell? ⟨w.heap.size, q, none⟩ = #[.float .f64 cI, .float .f64 cO, .float .f64 cX, .float .f64 cT, .slice Ap np cp][q]? := fun q => (BBW.out.cell (p := ⟨w.heap.size, q, none⟩) zl).trans (BX.out q)
                    have zl2 : w.heap.size < wc.heap.size := by have := BBW.out.size; omega
                    have BBW := Lib.hid (B2.out.trans (BBW.out.mono B2.out.size))
                    clear r3 hxx
                    obtain ⟨V5, eV5⟩ : ∃ V, V = addN (T i1 j) cO := ⟨_, rfl⟩
                    have hba : bO = (V5 == T i j) := by
                      rw [HBO.out, eV5, hi1]; unfold bkO; rw [decide_eq_false hj0, decide_eq_true hip]; simp
                    have cV5 : cn V5 = V5 := by rw [eV5]; exact cn_addN _ _
                    have lV5 : V5 < 2 ^ 64 := by rw [eV5]; exact addN_lt _ _
                    have E5 := Lib.hid eV5; have C5 := Lib.hid cV5; have HBV := Lib.hid hba; have L5 := Lib.hid lV5
                    clear eV5 cV5 lV5 hba
                    have k1 : (i1 : Int) < (n : Int) + 1 ∧ (j : Int) < (m : Int) + 1 ∧ (0 : Int) ≤ (i1 : Int) ∧ (0 : Int) ≤ (j : Int) := by omega
                    obtain ⟨k4, k5, k6, k7⟩ := k1
                    clear hi1 hi hj hk hj0
                    as_aux_lemma =>
                      refine Reg2.wp_region_rn [157] (by kernel_rfl) (by kernel_rfl) (fun _ => ?_)
                      repeat (refine Reg2.op0e Reg2.rn_class (fun _ _ => trivial) rfl rfl rfl ?_; apply Exists.intro; apply And.intro; (intro w' hb; have hc := Reg2.rd_cells hb; clear hb; go_simp; (try go_bits); first | done | (with_reducible exact rfl)); (intro a' ha'; simp only [Act.put, List.setIfInBounds_toArray, List.set_cons_zero, List.set_cons_succ] at ha'; subst ha'))
                      refine Reg2.op0 Reg2.rn_class (fun _ _ => trivial) rfl rfl rfl ⟨.float .f64 (V5), ?_, ?_⟩
                      · intro w' hb; have hc := Reg2.rd_cells hb; clear hb; go_simp; exact ⟨wIf_refl _ _, .inr ⟨rfl, veq2_of_cn (fun _ => by first | exact arU_lt _ _ _ _ | exact widU_lt _ _ | assumption) (by rw [E5.out]; exact cn_addU _ _ _ _ X1.out)⟩⟩
                      intro a' ha'; simp only [Act.put, List.setIfInBounds_toArray, List.set_cons_zero, List.set_cons_succ] at ha'; subst ha'
                      repeat (refine Reg2.op0e Reg2.rn_class (fun _ _ => trivial) rfl rfl rfl ?_; apply Exists.intro; apply And.intro; (intro w' hb; have hc := Reg2.rd_cells hb; clear hb; go_simp; (try go_bits); first | done | (with_reducible exact rfl)); (intro a' ha'; simp only [Act.put, List.setIfInBounds_toArray, List.set_cons_zero, List.set_cons_succ] at ha'; subst ha'))
                      refine Reg2.op1 Reg2.rn_class (fun _ _ => trivial) rfl rfl 157 _ rfl rfl ⟨.bool bO, ?_, ?_⟩
                      · intro u1 g1 w' hb; obtain ⟨y1, rfl, f1, l1⟩ := cn_of_veq2 g1; clear g1; have hbw := Lib.hid hb; clear hb; have F1 := Lib.hid f1; clear f1; simp only [Act.put, List.setIfInBounds_toArray, List.set_cons_zero, List.set_cons_succ]; go_simp; have f1 := F1.out; exact ⟨rfl, (HSM.out y1 _ (lt_of l1 L5.out)).mono fun en w'' ⟨e1, e2⟩ => ⟨_, e1, .inl (by rw [f1, C5.out, HXT.out, HBV.out]), by subst e2; exact Below.refl _ _⟩⟩
                      intro a' ha'; simp only [Act.put, List.setIfInBounds_toArray, List.set_cons_zero, List.set_cons_succ] at ha'; subst ha'
                      repeat (refine Reg2.op0e Reg2.rn_class (fun _ _ => trivial) rfl rfl rfl ?_; apply Exists.intro; apply And.intro; (intro w' hb; have hc := Reg2.rd_cells hb; clear hb; go_simp; (try go_bits); first | done | (with_reducible exact rfl)); (intro a' ha'; simp only [Act.put, List.setIfInBounds_toArray, List.set_cons_zero, List.set_cons_succ] at ha'; subst ha'))
                      refine Reg2.rn_endv [(157, .float .f64 (V5))] rfl (fun wz hb => ?_)
                      refine ⟨rfl, fun u hu => ?_⟩
                      obtain ⟨z157, rfl, k157, l157⟩ := cn_of_veq2 hu; clear hu
                      simp only [Reg2.endv, Act.put, List.setIfInBounds_toArray, List.set_cons_zero, List.set_cons_succ]
                      go_wp2_with fail
                      go_meet
                      case rel => exact ⟨by first | rfl | simp, HO.out.keep hb⟩
                case rest =>
                  obtain ⟨rfl, hO⟩ := hcut
                  have O := hO
                  clear HO c0 f0 z0 y0 zz
                  obtain ⟨c0, f0, z0, y0, -, zz⟩ := O.rules
                  have HO := Lib.hid O; clear O
                  clear hO BBC
                  have BBC := Lib.hid (B2.out.trans ((BW.out.trans (HO.out.below.mono hsz)).mono B2.out.size))
                  cases bO
                  · have HKO := Lib.hid HBO.out.symm
                    have hj0 : 0 < j := by have h := HBO.out.symm; unfold bkO at h; rw [Bool.or_eq_false_iff, decide_eq_false_iff_not] at h; omega
                    obtain ⟨j1, hj1⟩ : ∃ k, k = j - 1 := ⟨_, rfl⟩
                    have ej1 : (j : Int) - 1 = (j1 : Int) := by omega
                    obtain ⟨gb, ob, rfl, hgb, hcb⟩ := (HB.out.below BBC.out (Nat.le_refl _)) (by omega)
                    have qb := hcb j1 (by omega)
                    have k1 : (j1 : Int) < (m : Int) ∧ (0 : Int) ≤ (j1 : Int) := by omega
                    obtain ⟨k3, k7⟩ := k1
                    have qhgb : gb < wc.heap.size := by have := BBC.out.size; omega
                    have HJ1 := Lib.hid hj1
                    have HLT : Hid (i ≤ i ∧ j1 ≤ j ∧ i + j1 < i + j) := Lib.hid (by omega)
                    have HKK : Hid (bkK T cO cX cT p np fa fb i j = 4) := Lib.hid (by unfold bkK; rw [HKA.out, HKT.out, HKO.out]; rfl)
                    clear hcb hj1 hi hj hk hj0 HBO
                    as_aux_lemma =>
                      go_upto_region 20 with fail
                      refine wp_world0 (fun W' => Reg.Own wr W' [(wr.heap.size, #[.int .i64 4, .int .i32 0, .int .i32 (fb j1)], 80)]) ((((HO.out.set 0 (.int .i64 4)).set 1 (.int .i32 0)).set 2 (.int .i32 (fb j1)))) ?_
                      intro w6 hO
                      have O := hO
                      clear HO c0 f0 z0 y0 zz
                      obtain ⟨c0, f0, z0, y0, -, zz⟩ := O.rules
                      have HO := Lib.hid O; clear O
                      clear hO
                      have OWV := Lib.hid (own_below OW.out HO.out.below)
                      have BB6 := Lib.hid (BW.out.trans (HO.out.below.mono hsz))
                      have hkb := HK.out; have hib := HI.out; have hjb := HJ.out
                      have hw62 : w2.heap.size ≤ w6.heap.size := BB6.out.size
                      go_wp2_with (at_builtin
                                   refine wpList_append_own_at _ rfl _ _ _ rfl w2.heap.size 80 i0 _ 3 16 Try.underlying76 I0.out I1.out I2.out I3.out rfl (by omega) _ 1 [.int .i64 4, .int .i32 0, .int .i32 (fb j1)] rfl (World.ownsRow_lit (base := w2.heap.size) (e := 80) (size := 3) w6 #[.int .i64 4, .int .i32 0, .int .i32 (fb j1)] 1 hw62 (by simp [maxLen]) rfl) ⟨g, 0, none⟩ k cap (flatE (fun t => E (k - 1 - t)) k) rfl (flatE_length _ _) ((OWV.out.alloc _).cells rfl) (flatE_one _ _) (by unfold maxLen; omega) (by omega) (by simp; omega) ?_
                                   intro v' w7 hown7 hgrow7 h71 h72
                                   have OW7 := Lib.hid hown7; have HG7 := Lib.hid hgrow7
                                   clear hown7 hgrow7 h71 h72)
                      have he : E k = (4, 0, (fb j1)) := by
                        rw [HSN.out]
                        show edK fa fb (bkK T cO cX cT p np fa fb i j) i j = _
                        rw [HKK.out]
                        (rw [HJ1.out]; rfl)
                      have hp : P (k + 1) = (i, j1) := by
                        rw [HPN.out]
                        show prK (bkK T cO cX cT p np fa fb i j) i j = _
                        rw [HKK.out]
                        (rw [HJ1.out]; rfl)
                      have h7 : w7.ownsRow w2.heap.size 80 3 v' (k + 1) (flatE (fun t => E (k + 1 - 1 - t)) (k + 1)) := by
                        have e1 : flatE (fun t => E (k + 1 - 1 - t)) (k + 1) = [.int .i64 4, .int .i32 0, .int .i32 (fb j1)] ++ flatE (fun t => E (k - 1 - t)) k := by
                          rw [flatE_front]
                          show ([.int .i64 (E (k + 1 - 1 - 0)).1, .int .i32 (E (k + 1 - 1 - 0)).2.1, .int .i32 (E (k + 1 - 1 - 0)).2.2] : List Value) ++ _ = _
                          rw [show k + 1 - 1 - 0 = k by omega, he, flatE_congr k (E := fun t => E (k + 1 - 1 - (t + 1))) (E' := fun t => E (k - 1 - t)) (fun q _ => by show E (k + 1 - 1 - (q + 1)) = E (k - 1 - q); rw [show k + 1 - 1 - (q + 1) = k - 1 - q by omega])]
                        rw [e1, Nat.add_comm k 1]; exact OW7.out
                      have b7 : Below w2.heap.size w2 w7 := (BB6.out.alloc hw62 _).grown HG7.out (by simp; omega) (fun q e => own_slice_le e hw62)
                      have hbf : ∀ r, r < k + 1 → 0 < (P r).1 ∨ 0 < (P r).2 := fun r hr => by
                        by_cases e : r = k
                        · rw [e, PP.out]; exact HIJ.out
                        · exact BF.out r (by omega)
                      obtain ⟨g', cap', rfl, -, -⟩ := h7.form (by omega)
                      have hlt := HLT.out
                      go_roundw
                      case rel => exact ⟨k + 1, i, j1, g', cap', rfl, rfl, rfl, hp, by omega, by omega, by omega, hbf, h7, b7⟩
                      case measure => (simp [intOf] <;> omega)
                  · have HKO := Lib.hid HBO.out.symm
                    obtain ⟨i1, hi1⟩ : ∃ k, k = i - 1 := ⟨_, rfl⟩
                    have ei1 : (i : Int) - 1 = (i1 : Int) := by omega
                    obtain ⟨ga, oa, rfl, hga, hca⟩ := (HA.out.below BBC.out (Nat.le_refl _)) (by omega)
                    have qa := hca i1 (by omega)
                    have k1 : (i1 : Int) < (n : Int) ∧ (0 : Int) ≤ (i1 : Int) := by omega
                    obtain ⟨k3, k7⟩ := k1
                    have qhga : ga < wc.heap.size := by have := BBC.out.size; omega
                    have HI1 := Lib.hid hi1
                    have HLT : Hid (i1 ≤ i ∧ j ≤ j ∧ i1 + j < i + j) := Lib.hid (by omega)
                    have HKK : Hid (bkK T cO cX cT p np fa fb i j = 3) := Lib.hid (by unfold bkK; rw [HKA.out, HKT.out, HKO.out]; rfl)
                    clear hca hi1 hi hj hk HBO
                    as_aux_lemma =>
                      go_upto_region 20 with fail
                      refine wp_world0 (fun W' => Reg.Own wr W' [(wr.heap.size, #[.int .i64 3, .int .i32 (fa i1), .int .i32 0], 80)]) ((((HO.out.set 0 (.int .i64 3)).set 1 (.int .i32 (fa i1))).set 2 (.int .i32 0))) ?_
                      intro w6 hO
                      have O := hO
                      clear HO c0 f0 z0 y0 zz
                      obtain ⟨c0, f0, z0, y0, -, zz⟩ := O.rules
                      have HO := Lib.hid O; clear O
                      clear hO
                      have OWV := Lib.hid (own_below OW.out HO.out.below)
                      have BB6 := Lib.hid (BW.out.trans (HO.out.below.mono hsz))
                      have hkb := HK.out; have hib := HI.out; have hjb := HJ.out
                      have hw62 : w2.heap.size ≤ w6.heap.size := BB6.out.size
                      go_wp2_with (at_builtin
                                   refine wpList_append_own_at _ rfl _ _ _ rfl w2.heap.size 80 i0 _ 3 16 Try.underlying76 I0.out I1.out I2.out I3.out rfl (by omega) _ 1 [.int .i64 3, .int .i32 (fa i1), .int .i32 0] rfl (World.ownsRow_lit (base := w2.heap.size) (e := 80) (size := 3) w6 #[.int .i64 3, .int .i32 (fa i1), .int .i32 0] 1 hw62 (by simp [maxLen]) rfl) ⟨g, 0, none⟩ k cap (flatE (fun t => E (k - 1 - t)) k) rfl (flatE_length _ _) ((OWV.out.alloc _).cells rfl) (flatE_one _ _) (by unfold maxLen; omega) (by omega) (by simp; omega) ?_
                                   intro v' w7 hown7 hgrow7 h71 h72
                                   have OW7 := Lib.hid hown7; have HG7 := Lib.hid hgrow7
                                   clear hown7 hgrow7 h71 h72)
                      have he : E k = (3, (fa i1), 0) := by
                        rw [HSN.out]
                        show edK fa fb (bkK T cO cX cT p np fa fb i j) i j = _
                        rw [HKK.out]
                        (rw [HI1.out]; rfl)
                      have hp : P (k + 1) = (i1, j) := by
                        rw [HPN.out]
                        show prK (bkK T cO cX cT p np fa fb i j) i j = _
                        rw [HKK.out]
                        (rw [HI1.out]; rfl)
                      have h7 : w7.ownsRow w2.heap.size 80 3 v' (k + 1) (flatE (fun t => E (k + 1 - 1 - t)) (k + 1)) := by
                        have e1 : flatE (fun t => E (k + 1 - 1 - t)) (k + 1) = [.int .i64 3, .int .i32 (fa i1), .int .i32 0] ++ flatE (fun t => E (k - 1 - t)) k := by
                          rw [flatE_front]
                          show ([.int .i64 (E (k + 1 - 1 - 0)).1, .int .i32 (E (k + 1 - 1 - 0)).2.1, .int .i32 (E (k + 1 - 1 - 0)).2.2] : List Value) ++ _ = _
                          rw [show k + 1 - 1 - 0 = k by omega, he, flatE_congr k (E := fun t => E (k + 1 - 1 - (t + 1))) (E' := fun t => E (k - 1 - t)) (fun q _ => by show E (k + 1 - 1 - (q + 1)) = E (k - 1 - q); rw [show k + 1 - 1 - (q + 1) = k - 1 - q by omega])]
                        rw [e1, Nat.add_comm k 1]; exact OW7.out
                      have b7 : Below w2.heap.size w2 w7 := (BB6.out.alloc hw62 _).grown HG7.out (by simp; omega) (fun q e => own_slice_le e hw62)
                      have hbf : ∀ r, r < k + 1 → 0 < (P r).1 ∨ 0 < (P r).2 := fun r hr => by
                        by_cases e : r = k
                        · rw [e, PP.out]; exact HIJ.out
                        · exact BF.out r (by omega)
                      obtain ⟨g', cap', rfl, -, -⟩ := h7.form (by omega)
                      have hlt := HLT.out
                      go_roundw
                      case rel => exact ⟨k + 1, i1, j, g', cap', rfl, rfl, rfl, hp, by omega, by omega, by omega, hbf, h7, b7⟩
                      case measure => (simp [intOf] <;> omega)
              · have HKT := Lib.hid HBT.out.symm
                have h2 : 1 < i ∧ 1 < j := by have htn := HBT.out.symm; unfold bkT tnB at htn; simp only [Bool.and_eq_true, decide_eq_true_eq] at htn; omega
                obtain ⟨i1, hi1⟩ : ∃ k, k = i - 2 := ⟨_, rfl⟩
                obtain ⟨j1, hj1⟩ : ∃ k, k = j - 2 := ⟨_, rfl⟩
                obtain ⟨i2, hi2⟩ : ∃ k, k = i - 1 := ⟨_, rfl⟩
                have ei1 : (i : Int) - 2 = (i1 : Int) := by omega
                have ej1 : (j : Int) - 2 = (j1 : Int) := by omega
                have ei2 : (i : Int) - 1 = (i2 : Int) := by omega
                obtain ⟨ga, oa, rfl, hga, hca⟩ := (HA.out.below BBC.out (Nat.le_refl _)) (by omega)
                have qa := hca i1 (by omega)
                have qb := hca i2 (by omega)
                have k1 : (i1 : Int) < (n : Int) ∧ (i2 : Int) < (n : Int) ∧ (0 : Int) ≤ (i1 : Int) ∧ (0 : Int) ≤ (i2 : Int) ∧ (j1 : Int) < (m : Int) ∧ (0 : Int) ≤ (j1 : Int) := by omega
                obtain ⟨k2, k3, k6, k7, k8, k9⟩ := k1
                have qhga : ga < wc.heap.size := by have := BBC.out.size; omega
                have HI1 := Lib.hid hi1; have HJ1 := Lib.hid hj1; have HI2 := Lib.hid hi2
                have HLT : Hid (i1 ≤ i ∧ j1 ≤ j ∧ i1 + j1 < i + j) := Lib.hid (by omega)
                have HKK : Hid (bkK T cO cX cT p np fa fb i j = 5) := Lib.hid (by unfold bkK; rw [HKA.out, HKT.out]; rfl)
                clear hca hi1 hj1 hi2 hi hj hk h2 HBT
                go_wp2_with fail
                go_region
                as_aux_lemma =>
                  go_upto_region 20 with fail
                  refine wp_world0 (fun W' => Reg.Own wr W' [(wr.heap.size, #[.int .i64 5, .int .i32 (fa i1), .int .i32 (fa i2)], 80)]) (((((HO.out.set 0 (.int .i64 5)).set 1 (.int .i32 (fa i1))).set 2 (.int .i32 (fa i2))).drew)) ?_
                  intro w6 hO
                  have O := hO
                  clear HO c0 f0 z0 y0 zz
                  obtain ⟨c0, f0, z0, y0, -, zz⟩ := O.rules
                  have HO := Lib.hid O; clear O
                  clear hO
                  have OWV := Lib.hid (own_below OW.out HO.out.below)
                  have BB6 := Lib.hid (BW.out.trans (HO.out.below.mono hsz))
                  have hkb := HK.out; have hib := HI.out; have hjb := HJ.out
                  have hw62 : w2.heap.size ≤ w6.heap.size := BB6.out.size
                  go_wp2_with (at_builtin
                               refine wpList_append_own_at _ rfl _ _ _ rfl w2.heap.size 80 i0 _ 3 16 Try.underlying76 I0.out I1.out I2.out I3.out rfl (by omega) _ 1 [.int .i64 5, .int .i32 (fa i1), .int .i32 (fa i2)] rfl (World.ownsRow_lit (base := w2.heap.size) (e := 80) (size := 3) w6 #[.int .i64 5, .int .i32 (fa i1), .int .i32 (fa i2)] 1 hw62 (by simp [maxLen]) rfl) ⟨g, 0, none⟩ k cap (flatE (fun t => E (k - 1 - t)) k) rfl (flatE_length _ _) ((OWV.out.alloc _).cells rfl) (flatE_one _ _) (by unfold maxLen; omega) (by omega) (by simp; omega) ?_
                               intro v' w7 hown7 hgrow7 h71 h72
                               have OW7 := Lib.hid hown7; have HG7 := Lib.hid hgrow7
                               clear hown7 hgrow7 h71 h72)
                  have he : E k = (5, (fa i1), (fa i2)) := by
                    rw [HSN.out]
                    show edK fa fb (bkK T cO cX cT p np fa fb i j) i j = _
                    rw [HKK.out]
                    (rw [HI1.out, HI2.out]; rfl)
                  have hp : P (k + 1) = (i1, j1) := by
                    rw [HPN.out]
                    show prK (bkK T cO cX cT p np fa fb i j) i j = _
                    rw [HKK.out]
                    (rw [HI1.out, HJ1.out]; rfl)
                  have h7 : w7.ownsRow w2.heap.size 80 3 v' (k + 1) (flatE (fun t => E (k + 1 - 1 - t)) (k + 1)) := by
                    have e1 : flatE (fun t => E (k + 1 - 1 - t)) (k + 1) = [.int .i64 5, .int .i32 (fa i1), .int .i32 (fa i2)] ++ flatE (fun t => E (k - 1 - t)) k := by
                      rw [flatE_front]
                      show ([.int .i64 (E (k + 1 - 1 - 0)).1, .int .i32 (E (k + 1 - 1 - 0)).2.1, .int .i32 (E (k + 1 - 1 - 0)).2.2] : List Value) ++ _ = _
                      rw [show k + 1 - 1 - 0 = k by omega, he, flatE_congr k (E := fun t => E (k + 1 - 1 - (t + 1))) (E' := fun t => E (k - 1 - t)) (fun q _ => by show E (k + 1 - 1 - (q + 1)) = E (k - 1 - q); rw [show k + 1 - 1 - (q + 1) = k - 1 - q by omega])]
                    rw [e1, Nat.add_comm k 1]; exact OW7.out
                  have b7 : Below w2.heap.size w2 w7 := (BB6.out.alloc hw62 _).grown HG7.out (by simp; omega) (fun q e => own_slice_le e hw62)
                  have hbf : ∀ r, r < k + 1 → 0 < (P r).1 ∨ 0 < (P r).2 := fun r hr => by
                    by_cases e : r = k
                    · rw [e, PP.out]; exact HIJ.out
                    · exact BF.out r (by omega)
                  obtain ⟨g', cap', rfl, -, -⟩ := h7.form (by omega)
                  have hlt := HLT.out
                  go_roundw
                  case rel => exact ⟨k + 1, i1, j1, g', cap', rfl, rfl, rfl, hp, by omega, by omega, by omega, hbf, h7, b7⟩
                  case measure => (simp [intOf] <;> omega)
          · have HKA := Lib.hid HBA.out.symm
            clear HBA
            have hij2 : 0 < i ∧ 0 < j := by have h := HKA.out; unfold bkA at h; simp only [Bool.and_eq_true, decide_eq_true_eq] at h; exact ⟨h.1.1, h.1.2⟩
            obtain ⟨i1, hi1⟩ : ∃ k, k = i - 1 := ⟨_, rfl⟩
            obtain ⟨j1, hj1⟩ : ∃ k, k = j - 1 := ⟨_, rfl⟩
            have ei1 : (i : Int) - 1 = (i1 : Int) := by omega
            have ej1 : (j : Int) - 1 = (j1 : Int) := by omega
            obtain ⟨ga, oa, rfl, hga, hca⟩ := (HA.out.below BBC.out (Nat.le_refl _)) (by omega)
            obtain ⟨gb, ob, rfl, hgb, hcb⟩ := (HB.out.below BBC.out (Nat.le_refl _)) (by omega)
            have qa := hca i1 (by omega)
            have qb := hcb j1 (by omega)
            have qhga : ga < wc.heap.size := by have := BBC.out.size; omega
            have qhgb : gb < wc.heap.size := by have := BBC.out.size; omega
            have k1 : (i1 : Int) < (n : Int) ∧ (j1 : Int) < (m : Int) ∧ (0 : Int) ≤ (i1 : Int) ∧ (0 : Int) ≤ (j1 : Int) := by omega
            obtain ⟨k2, k3, k6, k7⟩ := k1
            have HI1 := Lib.hid hi1; have HJ1 := Lib.hid hj1
            have HLT : Hid (i1 ≤ i ∧ j1 ≤ j ∧ i1 + j1 < i + j) := Lib.hid (by omega)
            clear hca hcb hi1 hj1 hij2 hi hj hk
            go_wp2_with fail
            go_region
            go_upto_region 11 with fail
            have a1 : wr.heap.size ≠ ga := by omega
            have a2 : wr.heap.size ≠ gb := by omega
            refine wp_world0 (fun W' => Reg.Own wr W' [(wr.heap.size, #[.int .i64 2, .int .i32 (fa i1), .int .i32 (fb j1)], 80)] ∧ W'.cell? ⟨ga, oa + i1, none⟩ = some (.int .i32 (fa i1)) ∧ W'.cell? ⟨gb, ob + j1, none⟩ = some (.int .i32 (fb j1)))
              ⟨(((HO.out.set 0 (.int .i64 2)).set 1 (.int .i32 (fa i1))).set 2 (.int .i32 (fb j1))).drew, by show World.cell? (((wc.setCell ⟨wr.heap.size, 0, none⟩ (.int .i64 2)).setCell ⟨wr.heap.size, 1, none⟩ (.int .i32 (fa i1))).setCell ⟨wr.heap.size, 2, none⟩ (.int .i32 (fb j1))) _ = _; rw [World.cell?_setCell_other _ _ _ _ (addr_ne (.inl a1)), World.cell?_setCell_other _ _ _ _ (addr_ne (.inl a1)), World.cell?_setCell_other _ _ _ _ (addr_ne (.inl a1))]; exact qa,
               by show World.cell? (((wc.setCell ⟨wr.heap.size, 0, none⟩ (.int .i64 2)).setCell ⟨wr.heap.size, 1, none⟩ (.int .i32 (fa i1))).setCell ⟨wr.heap.size, 2, none⟩ (.int .i32 (fb j1))) _ = _; rw [World.cell?_setCell_other _ _ _ _ (addr_ne (.inl a2)), World.cell?_setCell_other _ _ _ _ (addr_ne (.inl a2)), World.cell?_setCell_other _ _ _ _ (addr_ne (.inl a2))]; exact qb⟩ ?_
            intro w5 hW5
            obtain ⟨hO, qa, qb⟩ := hW5
            have O := hO
            clear HO c0 f0 z0 y0 zz
            obtain ⟨c0, f0, z0, y0, -, zz⟩ := O.rules
            have HO := Lib.hid O; clear O
            have zw5 := hO.below.size
            clear hO a1 a2
            have qhga : ga < w5.heap.size := by omega
            have qhgb : gb < w5.heap.size := by omega
            cases hfe : (fa i1 == fb j1)
            · have HKK : Hid (bkK T cO cX cT p np fa fb i j = 2) := Lib.hid (by unfold bkK; rw [HKA.out, if_pos rfl, if_neg (by rw [← HI1.out, ← HJ1.out]; simpa using hfe)])
              refine Reg.wp_region_rd (by kernel_rfl) (by kernel_rfl) (fun _ => ?_)
              repeat (refine Reg.rd_op rfl ?_; apply Exists.intro; apply And.intro; (intro w' hb; have hc := Reg.rd_cells hb; clear hb; go_simp; (try go_bits); first | done | (with_reducible exact rfl)); (intro _ a' ha'; simp only [Act.put, List.setIfInBounds_toArray, List.set_cons_zero, List.set_cons_succ] at ha'; subst ha'))
              refine Reg.rd_end (fun wz hb => ?_)
              have O := HO.out.keep hb
              clear HO c0 f0 z0 y0 zz
              obtain ⟨c0, f0, z0, y0, -, zz⟩ := O.rules
              have HO := Lib.hid O; clear O
              as_aux_lemma =>
                go_upto_region 20 with fail
                refine wp_world0 (fun W' => Reg.Own wr W' [(wr.heap.size, #[.int .i64 2, .int .i32 (fa i1), .int .i32 (fb j1)], 80)]) (HO.out) ?_
                intro w6 hO
                have O := hO
                clear HO c0 f0 z0 y0 zz
                obtain ⟨c0, f0, z0, y0, -, zz⟩ := O.rules
                have HO := Lib.hid O; clear O
                clear hO
                have OWV := Lib.hid (own_below OW.out HO.out.below)
                have BB6 := Lib.hid (BW.out.trans (HO.out.below.mono hsz))
                have hkb := HK.out; have hib := HI.out; have hjb := HJ.out
                have hw62 : w2.heap.size ≤ w6.heap.size := BB6.out.size
                go_wp2_with (at_builtin
                             refine wpList_append_own_at _ rfl _ _ _ rfl w2.heap.size 80 i0 _ 3 16 Try.underlying76 I0.out I1.out I2.out I3.out rfl (by omega) _ 1 [.int .i64 2, .int .i32 (fa i1), .int .i32 (fb j1)] rfl (World.ownsRow_lit (base := w2.heap.size) (e := 80) (size := 3) w6 #[.int .i64 2, .int .i32 (fa i1), .int .i32 (fb j1)] 1 hw62 (by simp [maxLen]) rfl) ⟨g, 0, none⟩ k cap (flatE (fun t => E (k - 1 - t)) k) rfl (flatE_length _ _) ((OWV.out.alloc _).cells rfl) (flatE_one _ _) (by unfold maxLen; omega) (by omega) (by simp; omega) ?_
                             intro v' w7 hown7 hgrow7 h71 h72
                             have OW7 := Lib.hid hown7; have HG7 := Lib.hid hgrow7
                             clear hown7 hgrow7 h71 h72)
                have he : E k = (2, (fa i1), (fb j1)) := by
                  rw [HSN.out]
                  show edK fa fb (bkK T cO cX cT p np fa fb i j) i j = _
                  rw [HKK.out]
                  (rw [HI1.out, HJ1.out]; rfl)
                have hp : P (k + 1) = (i1, j1) := by
                  rw [HPN.out]
                  show prK (bkK T cO cX cT p np fa fb i j) i j = _
                  rw [HKK.out]
                  (rw [HI1.out, HJ1.out]; rfl)
                have h7 : w7.ownsRow w2.heap.size 80 3 v' (k + 1) (flatE (fun t => E (k + 1 - 1 - t)) (k + 1)) := by
                  have e1 : flatE (fun t => E (k + 1 - 1 - t)) (k + 1) = [.int .i64 2, .int .i32 (fa i1), .int .i32 (fb j1)] ++ flatE (fun t => E (k - 1 - t)) k := by
                    rw [flatE_front]
                    show ([.int .i64 (E (k + 1 - 1 - 0)).1, .int .i32 (E (k + 1 - 1 - 0)).2.1, .int .i32 (E (k + 1 - 1 - 0)).2.2] : List Value) ++ _ = _
                    rw [show k + 1 - 1 - 0 = k by omega, he, flatE_congr k (E := fun t => E (k + 1 - 1 - (t + 1))) (E' := fun t => E (k - 1 - t)) (fun q _ => by show E (k + 1 - 1 - (q + 1)) = E (k - 1 - q); rw [show k + 1 - 1 - (q + 1) = k - 1 - q by omega])]
                  rw [e1, Nat.add_comm k 1]; exact OW7.out
                have b7 : Below w2.heap.size w2 w7 := (BB6.out.alloc hw62 _).grown HG7.out (by simp; omega) (fun q e => own_slice_le e hw62)
                have hbf : ∀ r, r < k + 1 → 0 < (P r).1 ∨ 0 < (P r).2 := fun r hr => by
                  by_cases e : r = k
                  · rw [e, PP.out]; exact HIJ.out
                  · exact BF.out r (by omega)
                obtain ⟨g', cap', rfl, -, -⟩ := h7.form (by omega)
                have hlt := HLT.out
                go_roundw
                case rel => exact ⟨k + 1, i1, j1, g', cap', rfl, rfl, rfl, hp, by omega, by omega, by omega, hbf, h7, b7⟩
                case measure => (simp [intOf] <;> omega)
            · have HKK : Hid (bkK T cO cX cT p np fa fb i j = 1) := Lib.hid (by unfold bkK; rw [HKA.out, if_pos rfl, if_pos (by rw [← HI1.out, ← HJ1.out]; simpa using hfe)])
              refine Reg.wp_region_rd (by kernel_rfl) (by kernel_rfl) (fun _ => ?_)
              repeat (refine Reg.rd_op rfl ?_; apply Exists.intro; apply And.intro; (intro w' hb; have hc := Reg.rd_cells hb; clear hb; go_simp; (try go_bits); first | done | (with_reducible exact rfl)); (intro _ a' ha'; simp only [Act.put, List.setIfInBounds_toArray, List.set_cons_zero, List.set_cons_succ] at ha'; subst ha'))
              refine Reg.rd_end (fun wz hb => ?_)
              have O := HO.out.keep hb
              clear HO c0 f0 z0 y0 zz
              obtain ⟨c0, f0, z0, y0, -, zz⟩ := O.rules
              have HO := Lib.hid O; clear O
              as_aux_lemma =>
                go_upto_region 20 with fail
                refine wp_world0 (fun W' => Reg.Own wr W' [(wr.heap.size, #[.int .i64 1, .int .i32 (fa i1), .int .i32 (fb j1)], 80)]) ((HO.out.set 0 (.int .i64 1))) ?_
                intro w6 hO
                have O := hO
                clear HO c0 f0 z0 y0 zz
                obtain ⟨c0, f0, z0, y0, -, zz⟩ := O.rules
                have HO := Lib.hid O; clear O
                clear hO
                have OWV := Lib.hid (own_below OW.out HO.out.below)
                have BB6 := Lib.hid (BW.out.trans (HO.out.below.mono hsz))
                have hkb := HK.out; have hib := HI.out; have hjb := HJ.out
                have hw62 : w2.heap.size ≤ w6.heap.size := BB6.out.size
                go_wp2_with (at_builtin
                             refine wpList_append_own_at _ rfl _ _ _ rfl w2.heap.size 80 i0 _ 3 16 Try.underlying76 I0.out I1.out I2.out I3.out rfl (by omega) _ 1 [.int .i64 1, .int .i32 (fa i1), .int .i32 (fb j1)] rfl (World.ownsRow_lit (base := w2.heap.size) (e := 80) (size := 3) w6 #[.int .i64 1, .int .i32 (fa i1), .int .i32 (fb j1)] 1 hw62 (by simp [maxLen]) rfl) ⟨g, 0, none⟩ k cap (flatE (fun t => E (k - 1 - t)) k) rfl (flatE_length _ _) ((OWV.out.alloc _).cells rfl) (flatE_one _ _) (by unfold maxLen; omega) (by omega) (by simp; omega) ?_
                             intro v' w7 hown7 hgrow7 h71 h72
                             have OW7 := Lib.hid hown7; have HG7 := Lib.hid hgrow7
                             clear hown7 hgrow7 h71 h72)
                have he : E k = (1, (fa i1), (fb j1)) := by
                  rw [HSN.out]
                  show edK fa fb (bkK T cO cX cT p np fa fb i j) i j = _
                  rw [HKK.out]
                  (rw [HI1.out, HJ1.out]; rfl)
                have hp : P (k + 1) = (i1, j1) := by
                  rw [HPN.out]
                  show prK (bkK T cO cX cT p np fa fb i j) i j = _
                  rw [HKK.out]
                  (rw [HI1.out, HJ1.out]; rfl)
                have h7 : w7.ownsRow w2.heap.size 80 3 v' (k + 1) (flatE (fun t => E (k + 1 - 1 - t)) (k + 1)) := by
                  have e1 : flatE (fun t => E (k + 1 - 1 - t)) (k + 1) = [.int .i64 1, .int .i32 (fa i1), .int .i32 (fb j1)] ++ flatE (fun t => E (k - 1 - t)) k := by
                    rw [flatE_front]
                    show ([.int .i64 (E (k + 1 - 1 - 0)).1, .int .i32 (E (k + 1 - 1 - 0)).2.1, .int .i32 (E (k + 1 - 1 - 0)).2.2] : List Value) ++ _ = _
                    rw [show k + 1 - 1 - 0 = k by omega, he, flatE_congr k (E := fun t => E (k + 1 - 1 - (t + 1))) (E' := fun t => E (k - 1 - t)) (fun q _ => by show E (k + 1 - 1 - (q + 1)) = E (k - 1 - q); rw [show k + 1 - 1 - (q + 1) = k - 1 - q by omega])]
                  rw [e1, Nat.add_comm k 1]; exact OW7.out
                have b7 : Below w2.heap.size w2 w7 := (BB6.out.alloc hw62 _).grown HG7.out (by simp; omega) (fun q e => own_slice_le e hw62)
                have hbf : ∀ r, r < k + 1 → 0 < (P r).1 ∨ 0 < (P r).2 := fun r hr => by
                  by_cases e : r = k
                  · rw [e, PP.out]; exact HIJ.out
                  · exact BF.out r (by omega)
                obtain ⟨g', cap', rfl, -, -⟩ := h7.form (by omega)
                have hlt := HLT.out
                go_roundw
                case rel => exact ⟨k + 1, i1, j1, g', cap', rfl, rfl, rfl, hp, by omega, by omega, by omega, hbf, h7, b7⟩
                case measure => (simp [intOf] <;> omega)
    · obtain rfl : i = 0 := by omega
      obtain rfl : j = 0 := by omega
      have EK : Hid (EndK P k) := Lib.hid ⟨PP.out, BF.out⟩
      have hek := ed_of_own OW.out
      have EK2 := Lib.hid hek
      have B5 := Lib.hid (B2.out.trans (BW.out.mono B2.out.size))
      clear hek
      go_wp2_with fail
      go_ret
      exact ⟨B5.out, k, _, cap, by omega, rfl, EK.out, EK2.out⟩
end Go.Proofs.Ytkhdemaanakbeaa
