/- Edits, applied, are the two names, and cost the distance, added in order from 0 on; of no kind they say nothing: the law LikeWays returns true for inputs that hold at most 1048576 data in all and leaves its arguments as they were. -/
import Derived.Test.YtkhdemaanakbeaaEk
import Derived.Test.YtkhdemaanakbeaaCk
namespace Go.Proofs.Ytkhdemaanakbeaa
open Go.RowKit Go.Pst Go.ChangeShapes Go.WideShapes Go.ChangeAt Go.Joins Go.Deep
set_option maxRecDepth 100000
set_option linter.unusedSimpArgs false
set_option linter.unusedVariables false
structure Way (cI cO cX cT n m np : Nat) (p : Nat → Int × Int × Nat) (fa fb : Nat → Int) (t : Nat) (E : Nat → Int × Int × Int) (K : Nat) (D : Nat → Nat) : Prop where
  z : D 0 = 0
  e : D K = t
  s : ∀ i, i < K → addN (D i) (coE cI cO cX cT p np (E i)) = D (i + 1)
  k : ∀ i, i < K → ((E i).1 = 1 ∧ (E i).2.1 = (E i).2.2) ∨ (E i).1 = 2 ∨ (E i).1 = 3 ∨ (E i).1 = 4 ∨ (E i).1 = 5
  a : apA E K = preL fa n
  b : apB E K = preL fb m
attribute [local go_sem] run_fadd run_wid_cost'
theorem feq_self_not (u : Nat) : feq .f64 u u = !nan64 u := by rw [feq64]; cases nan64 u <;> simp
theorem name_own_at {w : World} {base : Nat} {e : TypeId} {A : Option Addr} {c : Nat} {l : List Int} (h : w.ownsRow base e 1 (.slice A l.length c) l.length (runes l)) : NameAt w w.heap.size A l.length (fun k => l.getD k 0) := by
  obtain ⟨A', c', h1, h2⟩ := name_of_own (show w.ownsRow base e 1 (.slice A l.length c) l.length (l.map fun x => .int .i32 x) from h)
  obtain rfl : A = A' := by injection h1
  exact h2
theorem ed_one (w : World) (x : Int × Int × Int) (t : TypeId) : EdAt (w.alloc (.cells #[.int .i64 x.1, .int .i32 x.2.1, .int .i32 x.2.2] t)) (w.alloc (.cells #[.int .i64 x.1, .int .i32 x.2.1, .int .i32 x.2.2] t)).heap.size (some ⟨w.heap.size, 0, none⟩) 1 (fun _ => x) := fun _ =>
  ⟨w.heap.size, 0, rfl, by simp, fun i hi => by
    obtain rfl : i = 0 := by omega
    have h := (Reg.Blk.new w #[.int .i64 x.1, .int .i32 x.2.1, .int .i32 x.2.2] t).cell
    exact ⟨h 0, h 1, h 2⟩⟩
theorem six_none (y z : Int) : apA (fun _ => (6, y, z)) 1 = [] ∧ apB (fun _ => (6, y, z)) 1 = [] := by
  constructor
  · show [] ++ stA (6, y, z) = []; unfold stA; simp
  · show [] ++ stB (6, y, z) = []; unfold stB; simp
set_option maxHeartbeats 16000000 in
theorem likeWays_core (cI cO cX cT n m c d np cp : Nat) (ox oy oz : Int) (A B Ap : Option Addr) (p : Nat → Int × Int × Nat) (fa fb : Nat → Int) (T : Nat → Nat → Nat) (P : Nat → Nat × Nat) (E : Nat → Int × Int × Int) (e : Int) (w : World)
    (hA : NameAt w w.heap.size A n fa) (hB : NameAt w w.heap.size B m fb) (hn : n ≤ 1048576) (hm : m ≤ 1048576) (hnp : np ≤ 1048576) (hp : PairsAt w w.heap.size Ap np p) (hcn : cn (T n m) = T n m) (hlt : T n m < 2 ^ 64)
    (hG : ∀ w, PairsAt w w.heap.size Ap np p → Calls Try.prog 18 #[.agg #[.float .f64 cI, .float .f64 cO, .float .f64 cX, .float .f64 cT, .slice Ap np cp]] w (GivenPost cI cO cX cT np p w))
    (hW : ∀ A' c' w, PairsAt w w.heap.size A' np p → Calls Try.prog 17 #[.agg #[.float .f64 cI, .float .f64 cO, .float .f64 cX, .float .f64 cT, .slice A' np c'], .slice A n c, .slice B m d] w fun en w' => en = .returned (.int .i64 e) ∧ Below w.heap.size w w')
    (hD : ∀ w, NameAt w w.heap.size A n fa → NameAt w w.heap.size B m fb → PairsAt w w.heap.size Ap np p → Calls Try.prog 13 #[.agg #[.float .f64 cI, .float .f64 cO, .float .f64 cX, .float .f64 cT, .slice Ap np cp], .slice A n c, .slice B m d] w (DistPost T e n m w))
    (hE : ∀ w, NameAt w w.heap.size A n fa → NameAt w w.heap.size B m fb → PairsAt w w.heap.size Ap np p → Calls Try.prog 34 #[.agg #[.float .f64 cI, .float .f64 cO, .float .f64 cX, .float .f64 cT, .slice Ap np cp], .slice A n c, .slice B m d] w (EditsPost P E e w))
    (hF : e = 0 → ∀ K, EndK P K → ∃ D, Way cI cO cX cT n m np p fa fb (T n m) (fun t => E (K - 1 - t)) K D) :
    Calls Try.prog 9 #[.agg #[.float .f64 cI, .float .f64 cO, .float .f64 cX, .float .f64 cT, .slice Ap np cp], .agg #[.slice A n c, .slice B m d], .agg #[.int .i64 ox, .int .i32 oy, .int .i32 oz]] w
      fun en w' => en = .returned (.bool true) ∧ Below w.heap.size w w' := by
  have HA := Lib.hid hA; have HB := Lib.hid hB; have HP := Lib.hid hp; have HG := Lib.hid hG; have HWR := Lib.hid hW; have HDI := Lib.hid hD; have HED := Lib.hid hE; have HFA := Lib.hid hF; have HCN := Lib.hid hcn; have HLT := Lib.hid hlt
  clear hA hB hp hG hW hD hE hF hcn hlt
  go_enter Try.func9, Try.ntmps9
  go_wp2_with fail
  have O := (Reg.Own.nil w).alloc rfl #[.float .f64 cI, .float .f64 cO, .float .f64 cX, .float .f64 cT, .slice Ap np cp] 26
  obtain ⟨c0, f0, z0, y0, -, zz⟩ := O.rules
  have HO := Lib.hid O; clear O
  have O := HO.out.alloc (k := w.heap.size + 1) (by simp) #[.slice A n c, .slice B m d] 64
  clear HO c0 f0 z0 y0 zz
  obtain ⟨c1, f1, z1, y1, ⟨n10, -⟩, c0, f0, z0, y0, -, zz⟩ := O.rules
  have HO := Lib.hid O; clear O
  have O := HO.out.alloc (k := w.heap.size + 2) (by simp) #[.int .i64 ox, .int .i32 oy, .int .i32 oz] 79
  clear HO c1 f1 z1 y1 n10 c0 f0 z0 y0 zz
  obtain ⟨c2, f2, z2, y2, ⟨n21, n20, -⟩, c1, f1, z1, y1, ⟨n10, -⟩, c0, f0, z0, y0, -, zz⟩ := O.rules
  have HO := Lib.hid O; clear O
  refine Reg.wp_region_rd (by kernel_rfl) (by kernel_rfl) (fun _ => ?_)
  repeat (refine Reg.rd_op rfl ?_; apply Exists.intro; apply And.intro; (intro w' hb; have hc := Reg.rd_cells hb; clear hb; go_simp; (try go_bits); first | done | (with_reducible exact rfl)); (intro _ a' ha'; simp only [Act.put, List.setIfInBounds_toArray, List.set_cons_zero, List.set_cons_succ] at ha'; subst ha'))
  refine Reg.rd_end (fun wz hbn => ?_)
  have O := HO.out.keep hbn
  clear HO c2 f2 z2 y2 n21 n20 c1 f1 z1 y1 n10 c0 f0 z0 y0 zz
  obtain ⟨c2, f2, z2, y2, ⟨n21, n20, -⟩, c1, f1, z1, y1, ⟨n10, -⟩, c0, f0, z0, y0, -, zz⟩ := O.rules
  have HO := Lib.hid O; clear O
  clear hbn
  go_wp2_with fail
  refine (HG.out _ ((HP.out.below HO.out.below (Nat.le_refl _)).more HO.out.size)).mono ?_
  rintro en wn ⟨A', c', rfl, hp', hbn⟩
  have HP' := Lib.hid hp'
  clear hp'
  have O := HO.out.keep hbn
  clear HO c2 f2 z2 y2 n21 n20 c1 f1 z1 y1 n10 c0 f0 z0 y0 zz
  obtain ⟨c2, f2, z2, y2, ⟨n21, n20, -⟩, c1, f1, z1, y1, ⟨n10, -⟩, c0, f0, z0, y0, -, zz⟩ := O.rules
  have HO := Lib.hid O; clear O
  clear hbn
  go_wp2_with fail
  refine (HWR.out _ _ _ HP'.out).mono ?_
  rintro en wn ⟨rfl, hbn⟩
  clear HP'
  by_cases he : e = 0
  · subst he
    have O := HO.out.keep hbn
    clear HO c2 f2 z2 y2 n21 n20 c1 f1 z1 y1 n10 c0 f0 z0 y0 zz
    obtain ⟨c2, f2, z2, y2, ⟨n21, n20, -⟩, c1, f1, z1, y1, ⟨n10, -⟩, c0, f0, z0, y0, -, zz⟩ := O.rules
    have HO := Lib.hid O; clear O
    clear hbn
    go_wp2_with fail
    refine (HDI.out _ ((HA.out.below HO.out.below (Nat.le_refl _)).more HO.out.size) ((HB.out.below HO.out.below (Nat.le_refl _)).more HO.out.size) ((HP.out.below HO.out.below (Nat.le_refl _)).more HO.out.size)).mono ?_
    rintro en wn ⟨u, rfl, -, hu, hbn⟩
    have HU := Lib.hid (hu rfl)
    clear hu
    have O := HO.out.keep hbn
    clear HO c2 f2 z2 y2 n21 n20 c1 f1 z1 y1 n10 c0 f0 z0 y0 zz
    obtain ⟨c2, f2, z2, y2, ⟨n21, n20, -⟩, c1, f1, z1, y1, ⟨n10, -⟩, c0, f0, z0, y0, -, zz⟩ := O.rules
    have HO := Lib.hid O; clear O
    clear hbn
    go_wp2_with fail
    refine (HED.out _ ((HA.out.below HO.out.below (Nat.le_refl _)).more HO.out.size) ((HB.out.below HO.out.below (Nat.le_refl _)).more HO.out.size) ((HP.out.below HO.out.below (Nat.le_refl _)).more HO.out.size)).mono ?_
    rintro en wn ⟨hbn, hr | hr⟩
    · exact absurd rfl hr.1
    obtain ⟨-, K, Ae, ce, hK, rfl, hend, hed⟩ := hr
    obtain ⟨D, hway⟩ := HFA.out (by first | exact rfl | exact trivial) K hend
    have HE1 := Lib.hid hed; have WY := Lib.hid hway
    generalize hEE : (fun t => E (K - 1 - t)) = F at *
    clear hed hway hend hEE
    have O := HO.out.keep hbn
    clear HO c2 f2 z2 y2 n21 n20 c1 f1 z1 y1 n10 c0 f0 z0 y0 zz
    obtain ⟨c2, f2, z2, y2, ⟨n21, n20, -⟩, c1, f1, z1, y1, ⟨n10, -⟩, c0, f0, z0, y0, -, zz⟩ := O.rules
    have HO := Lib.hid O; clear O
    clear hbn
    go_wp2_with fail
    refine (awake_any _).mono ?_
    rintro en wn2 ⟨rfl, hbn⟩
    replace HE1 := Lib.hid ((HE1.out.below hbn (Nat.le_refl _)).more hbn.size)
    have O := HO.out.keep hbn
    clear HO c2 f2 z2 y2 n21 n20 c1 f1 z1 y1 n10 c0 f0 z0 y0 zz
    obtain ⟨c2, f2, z2, y2, ⟨n21, n20, -⟩, c1, f1, z1, y1, ⟨n10, -⟩, c0, f0, z0, y0, -, zz⟩ := O.rules
    have HO := Lib.hid O; clear O
    clear hbn
    go_wp2_with fail
    have HOW := HO
    have zW := z2
    go_loopw [13, 14] (fun s t wr => ∃ i b : Nat, t = .int .i64 (i : Int) ∧ s = .float .f64 b ∧ i ≤ K ∧ cn b = D i ∧ Below wn2.heap.size wn2 wr) (fun _ t _ => K - (intOf t).toNat)
    case atStart => exact ⟨0, 0, rfl, rfl, by omega, by rw [WY.out.z]; decide, Below.refl _ _⟩
    case round =>
      obtain ⟨i, b, rfl, rfl, hi, hb, hbw⟩ := hrel
      have BW := Lib.hid hbw; have HBB := Lib.hid hb
      have hsz := hbw.size
      clear hbw hb
      by_cases hik : i < K
      · have h3 : (i : Int) < (K : Int) := by omega
        have h00 : (0 : Int) ≤ (i : Int) := by omega
        obtain ⟨g, off, rfl, hg, hc⟩ := HE1.out (by omega)
        obtain ⟨q1, q2, q3⟩ := hc i hik
        have q1 := (BW.out.cell (p := ⟨g, off + i * 3, none⟩) hg).trans q1
        have q2 := (BW.out.cell (p := ⟨g, off + i * 3 + 1, none⟩) hg).trans q2
        have q3 := (BW.out.cell (p := ⟨g, off + i * 3 + 2, none⟩) hg).trans q3
        have hg2 : g < wr.heap.size := by omega
        have HS := Lib.hid (WY.out.s i hik)
        have HKI := WY.out.k i hik
        generalize F i = ex at q1 q2 q3 HS HKI
        obtain ⟨x1, x2, x3⟩ := ex
        clear hc
        simp only at HKI
        rcases HKI with ⟨e1, e2⟩ | e1 | e1 | e1 | e1
        · subst e1 e2
          have O := HOW.out.keep BW.out
          clear HO c2 f2 z2 y2 n21 n20 c1 f1 z1 y1 n10 c0 f0 z0 y0 zz
          obtain ⟨c2, f2, z2, y2, ⟨n21, n20, -⟩, c1, f1, z1, y1, ⟨n10, -⟩, c0, f0, z0, y0, -, zz⟩ := O.rules
          have HO := Lib.hid O; clear O
          go_wp2_with fail
          refine Reg.wp_region_rd (by kernel_rfl) (by kernel_rfl) (fun _ => ?_)
          repeat (refine Reg.rd_op rfl ?_; apply Exists.intro; apply And.intro; (intro w' hb; have hc := Reg.rd_cells hb; clear hb; go_simp; (try go_bits); first | done | (with_reducible exact rfl)); (intro _ a' ha'; simp only [Act.put, List.setIfInBounds_toArray, List.set_cons_zero, List.set_cons_succ] at ha'; subst ha'))
          refine Reg.rd_end (fun wz hb => ?_)
          have BB := Lib.hid (BW.out.trans (hb.mono hsz))
          clear hb
          have HSU : Hid (∀ w0 : World, cn (arU .add w0 b 0) = D (i + 1)) := Lib.hid fun w0 => (cn_addU2 w0 b (D i) 0 _ HBB.out rfl).trans ((cn_addN _ _).trans HS.out)
          go_wp2_with fail
          go_roundw
          case rel => exact ⟨i + 1, _, by go_num, rfl, by omega, HSU.out _, wIf_below _ _ BB.out⟩
          case measure => (simp [intOf] <;> omega)
        · subst e1
          have O := HOW.out.keep BW.out
          clear HO c2 f2 z2 y2 n21 n20 c1 f1 z1 y1 n10 c0 f0 z0 y0 zz
          obtain ⟨c2, f2, z2, y2, ⟨n21, n20, -⟩, c1, f1, z1, y1, ⟨n10, -⟩, c0, f0, z0, y0, -, zz⟩ := O.rules
          have HO := Lib.hid O; clear O
          go_wp2_with fail
          go_loopw [15, 16] (fun s t wq => ∃ k y : Nat, t = .int .i64 (k : Int) ∧ s = .float .f64 y ∧ k ≤ np ∧ cn y = cn (putV p cX x2 x3 k) ∧ Below wr.heap.size wr wq) (fun _ t _ => np - (intOf t).toNat)
          case atStart => exact ⟨0, cX, rfl, rfl, by omega, rfl, Below.refl _ _⟩
          case round =>
            obtain ⟨k, y, rfl, rfl, hk, hy, hbq⟩ := hrel
            have BQ := Lib.hid hbq; have HY := Lib.hid hy
            have hszq := hbq.size
            clear hbq hy
            have O := (HOW.out.keep BW.out).keep BQ.out
            clear HO c2 f2 z2 y2 n21 n20 c1 f1 z1 y1 n10 c0 f0 z0 y0 zz
            obtain ⟨c2, f2, z2, y2, ⟨n21, n20, -⟩, c1, f1, z1, y1, ⟨n10, -⟩, c0, f0, z0, y0, -, zz⟩ := O.rules
            have HO := Lib.hid O; clear O
            by_cases hkn : k < np
            · have p3 : (k : Int) < (np : Int) := by omega
              have p00 : (0 : Int) ≤ (k : Int) := by omega
              obtain ⟨gp, op, rfl, hgp, hcp⟩ := (HP.out.below HO.out.below (Nat.le_refl _)) (by omega)
              obtain ⟨d1, d2, d3⟩ := hcp k hkn
              have hgp2 : gp < wr.heap.size := by omega
              have q1 := (BQ.out.cell (p := ⟨g, off + i * 3, none⟩) hg2).trans q1
              have q2 := (BQ.out.cell (p := ⟨g, off + i * 3 + 1, none⟩) hg2).trans q2
              have q3 := (BQ.out.cell (p := ⟨g, off + i * 3 + 2, none⟩) hg2).trans q3
              have hg3 : g < wr.heap.size := by omega
              have HPV : Hid (putV p cX x2 x3 (k + 1) = if (p k).1 = x2 ∧ (p k).2.1 = x3 then widV (p k).2.2 else putV p cX x2 x3 k) := Lib.hid rfl
              clear hcp
              generalize hpk : p k = pk at *
              obtain ⟨v1, v2, v3⟩ := pk
              clear hpk
              cases m1 : (v1 == x2)
              · have HM : Hid (putV p cX x2 x3 (k + 1) = putV p cX x2 x3 k) := Lib.hid (by rw [HPV.out, if_neg (fun h => by have := beq_eq_false_iff_ne.1 m1; exact this h.1)])
                clear HPV
                go_wp2_with fail
                refine Reg.wp_region_rd (by kernel_rfl) (by kernel_rfl) (fun _ => ?_)
                repeat (refine Reg.rd_op rfl ?_; apply Exists.intro; apply And.intro; (intro w' hb; have hc := Reg.rd_cells hb; clear hb; go_simp; (try go_bits); first | done | (with_reducible exact rfl)); (intro _ a' ha'; simp only [Act.put, List.setIfInBounds_toArray, List.set_cons_zero, List.set_cons_succ] at ha'; subst ha'))
                repeat (refine Reg.rd_skip rfl ?_; intro a' ha'; simp only [Act.put, List.setIfInBounds_toArray, List.set_cons_zero, List.set_cons_succ] at ha'; subst ha')
                repeat (refine Reg.rd_op rfl ?_; apply Exists.intro; apply And.intro; (intro w' hb; have hc := Reg.rd_cells hb; clear hb; go_simp; (try go_bits); first | done | (with_reducible exact rfl)); (intro _ a' ha'; simp only [Act.put, List.setIfInBounds_toArray, List.set_cons_zero, List.set_cons_succ] at ha'; subst ha'))
                refine Reg.rd_end (fun wz hb => ?_)
                have BQ2 := Lib.hid (BQ.out.trans (hb.mono hszq))
                clear hb
                go_wp2_with fail
                go_roundw
                case rel => exact ⟨k + 1, y, by go_num, rfl, by omega, by rw [HM.out]; exact HY.out, BQ2.out⟩
                case measure => (simp [intOf] <;> omega)
              · cases m2 : (v2 == x3)
                · have HM : Hid (putV p cX x2 x3 (k + 1) = putV p cX x2 x3 k) := Lib.hid (by rw [HPV.out, if_neg (fun h => by have := beq_eq_false_iff_ne.1 m2; exact this h.2)])
                  clear HPV
                  go_wp2_with fail
                  refine Reg.wp_region_rd (by kernel_rfl) (by kernel_rfl) (fun _ => ?_)
                  repeat (refine Reg.rd_op rfl ?_; apply Exists.intro; apply And.intro; (intro w' hb; have hc := Reg.rd_cells hb; clear hb; go_simp; (try go_bits); first | done | (with_reducible exact rfl)); (intro _ a' ha'; simp only [Act.put, List.setIfInBounds_toArray, List.set_cons_zero, List.set_cons_succ] at ha'; subst ha'))
                  refine Reg.rd_end (fun wz hb => ?_)
                  have BQ2 := Lib.hid (BQ.out.trans (hb.mono hszq))
                  clear hb
                  go_wp2_with fail
                  go_roundw
                  case rel => exact ⟨k + 1, y, by go_num, rfl, by omega, by rw [HM.out]; exact HY.out, BQ2.out⟩
                  case measure => (simp [intOf] <;> omega)
                · have HM : Hid (putV p cX x2 x3 (k + 1) = widV v3) := Lib.hid (by rw [HPV.out, if_pos ⟨by simpa using m1, by simpa using m2⟩])
                  clear HPV
                  go_wp2_with fail
                  refine Reg.wp_region_rd (by kernel_rfl) (by kernel_rfl) (fun _ => ?_)
                  repeat (refine Reg.rd_op rfl ?_; apply Exists.intro; apply And.intro; (intro w' hb; have hc := Reg.rd_cells hb; clear hb; go_simp; (try go_bits); first | done | (with_reducible exact rfl)); (intro _ a' ha'; simp only [Act.put, List.setIfInBounds_toArray, List.set_cons_zero, List.set_cons_succ] at ha'; subst ha'))
                  refine Reg.rd_end (fun wz hb => ?_)
                  have O := HO.out.keep hb
                  clear HO c2 f2 z2 y2 n21 n20 c1 f1 z1 y1 n10 c0 f0 z0 y0 zz
                  obtain ⟨c2, f2, z2, y2, ⟨n21, n20, -⟩, c1, f1, z1, y1, ⟨n10, -⟩, c0, f0, z0, y0, -, zz⟩ := O.rules
                  have HO := Lib.hid O; clear O
                  have d3 := (hb.cell (p := ⟨gp, op + k * 3 + 2, none⟩) hgp2).trans d3
                  have BQ2 := Lib.hid (BQ.out.trans (hb.mono hszq))
                  have hgp3 : gp < wz.heap.size := by have := hb.size; omega
                  clear hb
                  go_wp2_with fail
                  go_roundw
                  case rel => exact ⟨k + 1, _, by go_num, rfl, by omega, by rw [HM.out, cn_widV]; exact cn_widU _ _, wIf_below _ _ BQ2.out⟩
                  case measure => (simp [intOf] <;> omega)
            · obtain rfl : k = np := by omega
              have hnk : ¬ (k : Int) < (k : Int) := by omega
              have BB := Lib.hid (BW.out.trans (BQ.out.mono hsz))
              have HSU : Hid (∀ w0 : World, cn (arU .add w0 b y) = D (i + 1)) := Lib.hid fun w0 => (cn_addU2 w0 b (D i) y _ HBB.out HY.out).trans ((cn_addN _ _).trans HS.out)
              go_wp2_with fail
              go_roundw
              case rel => exact ⟨i + 1, _, by go_num, rfl, by omega, HSU.out _, wIf_below _ _ BB.out⟩
              case measure => (simp [intOf] <;> omega)
        · subst e1
          have O := HOW.out.keep BW.out
          clear HO c2 f2 z2 y2 n21 n20 c1 f1 z1 y1 n10 c0 f0 z0 y0 zz
          obtain ⟨c2, f2, z2, y2, ⟨n21, n20, -⟩, c1, f1, z1, y1, ⟨n10, -⟩, c0, f0, z0, y0, -, zz⟩ := O.rules
          have HO := Lib.hid O; clear O
          have HSU : Hid (∀ w0 : World, cn (arU .add w0 b cO) = D (i + 1)) := Lib.hid fun w0 => (cn_addU2 w0 b (D i) cO _ HBB.out rfl).trans ((cn_addN _ _).trans HS.out)
          go_wp2_with fail
          go_roundw
          case rel => exact ⟨i + 1, _, by go_num, rfl, by omega, HSU.out _, wIf_below _ _ BW.out⟩
          case measure => (simp [intOf] <;> omega)
        · subst e1
          have O := HOW.out.keep BW.out
          clear HO c2 f2 z2 y2 n21 n20 c1 f1 z1 y1 n10 c0 f0 z0 y0 zz
          obtain ⟨c2, f2, z2, y2, ⟨n21, n20, -⟩, c1, f1, z1, y1, ⟨n10, -⟩, c0, f0, z0, y0, -, zz⟩ := O.rules
          have HO := Lib.hid O; clear O
          have HSU : Hid (∀ w0 : World, cn (arU .add w0 b cI) = D (i + 1)) := Lib.hid fun w0 => (cn_addU2 w0 b (D i) cI _ HBB.out rfl).trans ((cn_addN _ _).trans HS.out)
          go_wp2_with fail
          go_roundw
          case rel => exact ⟨i + 1, _, by go_num, rfl, by omega, HSU.out _, wIf_below _ _ BW.out⟩
          case measure => (simp [intOf] <;> omega)
        · subst e1
          have O := HOW.out.keep BW.out
          clear HO c2 f2 z2 y2 n21 n20 c1 f1 z1 y1 n10 c0 f0 z0 y0 zz
          obtain ⟨c2, f2, z2, y2, ⟨n21, n20, -⟩, c1, f1, z1, y1, ⟨n10, -⟩, c0, f0, z0, y0, -, zz⟩ := O.rules
          have HO := Lib.hid O; clear O
          have HSU : Hid (∀ w0 : World, cn (arU .add w0 b cT) = D (i + 1)) := Lib.hid fun w0 => (cn_addU2 w0 b (D i) cT _ HBB.out rfl).trans ((cn_addN _ _).trans HS.out)
          go_wp2_with fail
          go_roundw
          case rel => exact ⟨i + 1, _, by go_num, rfl, by omega, HSU.out _, wIf_below _ _ BW.out⟩
          case measure => (simp [intOf] <;> omega)
      · obtain rfl : i = K := by omega
        have hnlt : ¬ (i : Int) < (i : Int) := by omega
        replace HE1 := Lib.hid ((HE1.out.below BW.out (Nat.le_refl _)).more hsz)
        have HBT : Hid (cn b = T n m) := Lib.hid (by rw [HBB.out, WY.out.e])
        have la := WY.out.a
        have lb := WY.out.b
        have LA := Lib.hid la; have LB := Lib.hid lb
        clear la lb
        have O := HOW.out.keep BW.out
        clear HO c2 f2 z2 y2 n21 n20 c1 f1 z1 y1 n10 c0 f0 z0 y0 zz
        obtain ⟨c2, f2, z2, y2, ⟨n21, n20, -⟩, c1, f1, z1, y1, ⟨n10, -⟩, c0, f0, z0, y0, -, zz⟩ := O.rules
        have HO := Lib.hid O; clear O
        go_wp2_with fail
        refine (apply_any i ce Ae F wr hK HE1.out).mono ?_
        rw [LA.out, LB.out]
        rintro en wn ⟨Ax, cx, Ay, cy, rfl, hox, hoy, hbn⟩
        have NX := Lib.hid (name_own_at hox)
        have NY := Lib.hid (name_own_at hoy)
        clear hox hoy
        rw [preL_len] at NX
        rw [preL_len] at NY
        rw [preL_len, preL_len]
        have O := HO.out.keep hbn
        clear HO c2 f2 z2 y2 n21 n20 c1 f1 z1 y1 n10 c0 f0 z0 y0 zz
        obtain ⟨c2, f2, z2, y2, ⟨n21, n20, -⟩, c1, f1, z1, y1, ⟨n10, -⟩, c0, f0, z0, y0, -, zz⟩ := O.rules
        have HO := Lib.hid O; clear O
        clear hbn
        go_wp2_with fail
        refine (names_any Ax A n n cx c _ fa _ NX.out ((HA.out.below HO.out.below (Nat.le_refl _)).more HO.out.size) hn hn).mono ?_
        rw [show sameB n n (fun k => (preL fa n).getD k 0) fa = true from decide_eq_true ⟨rfl, fun k hk => preL_get fa hk⟩]
        rintro en wn3 ⟨rfl, hbn⟩
        replace NY := Lib.hid ((NY.out.below hbn (Nat.le_refl _)).more hbn.size)
        have O := HO.out.keep hbn
        clear HO c2 f2 z2 y2 n21 n20 c1 f1 z1 y1 n10 c0 f0 z0 y0 zz
        obtain ⟨c2, f2, z2, y2, ⟨n21, n20, -⟩, c1, f1, z1, y1, ⟨n10, -⟩, c0, f0, z0, y0, -, zz⟩ := O.rules
        have HO := Lib.hid O; clear O
        clear hbn
        go_wp2_with fail
        refine (names_any Ay B m m cy d _ fb _ NY.out ((HB.out.below HO.out.below (Nat.le_refl _)).more HO.out.size) hm hm).mono ?_
        rw [show sameB m m (fun k => (preL fb m).getD k 0) fb = true from decide_eq_true ⟨rfl, fun k hk => preL_get fb hk⟩]
        rintro en wn4 ⟨rfl, hbn⟩
        have fse := feq_self_not u
        cases hnu : nan64 u
        · rw [hnu] at fse
          clear hnu
          have O := HO.out.keep hbn
          clear HO c2 f2 z2 y2 n21 n20 c1 f1 z1 y1 n10 c0 f0 z0 y0 zz
          obtain ⟨c2, f2, z2, y2, ⟨n21, n20, -⟩, c1, f1, z1, y1, ⟨n10, -⟩, c0, f0, z0, y0, -, zz⟩ := O.rules
          have HO := Lib.hid O; clear O
          clear hbn
          go_wp2_with fail
          refine (alike_any b u (T n m) _ HBT.out HU.out HLT.out).mono ?_
          rintro en wn5 ⟨rfl, hbn⟩
          have O := HO.out.keep hbn
          clear HO c2 f2 z2 y2 n21 n20 c1 f1 z1 y1 n10 c0 f0 z0 y0 zz
          obtain ⟨c2, f2, z2, y2, ⟨n21, n20, -⟩, c1, f1, z1, y1, ⟨n10, -⟩, c0, f0, z0, y0, -, zz⟩ := O.rules
          have HO := Lib.hid O; clear O
          clear hbn
          go_wp2_with fail
          have B7 := HO.out.below.setCell (p := ⟨w.heap.size + 1 + 1, 0, none⟩) (by show w.heap.size ≤ w.heap.size + 1 + 1; omega) (.int .i64 6)
          have hEO := ed_one (wn5.setCell ⟨w.heap.size + 1 + 1, 0, none⟩ (.int .i64 6)) (6, oy, oz) 79
          rw [show (wn5.setCell ⟨w.heap.size + 1 + 1, 0, none⟩ (.int .i64 6)).heap.size = wn5.heap.size by simp] at hEO
          have hAP := apply_any 1 1 _ (fun _ => (6, oy, oz)) _ (by omega) hEO
          rw [(six_none oy oz).1, (six_none oy oz).2] at hAP
          refine hAP.mono ?_
          rintro en wn6 ⟨Av, cv, Aw, cw, rfl, -, -, hbn⟩
          have B8 := Lib.hid ((B7.alloc B7.size (.cells #[.int .i64 6, .int .i32 oy, .int .i32 oz] 79)).trans (hbn.mono (B7.alloc B7.size _).size))
          clear hbn hAP hEO B7
          go_wp2_with fail
          go_ret
          exact ⟨rfl, B8.out⟩
        · rw [hnu] at fse
          clear hnu
          have O := HO.out.keep hbn
          clear HO c2 f2 z2 y2 n21 n20 c1 f1 z1 y1 n10 c0 f0 z0 y0 zz
          obtain ⟨c2, f2, z2, y2, ⟨n21, n20, -⟩, c1, f1, z1, y1, ⟨n10, -⟩, c0, f0, z0, y0, -, zz⟩ := O.rules
          have HO := Lib.hid O; clear O
          clear hbn
          go_wp2_with fail
          have B7 := HO.out.below.setCell (p := ⟨w.heap.size + 1 + 1, 0, none⟩) (by show w.heap.size ≤ w.heap.size + 1 + 1; omega) (.int .i64 6)
          have hEO := ed_one (wn4.setCell ⟨w.heap.size + 1 + 1, 0, none⟩ (.int .i64 6)) (6, oy, oz) 79
          rw [show (wn4.setCell ⟨w.heap.size + 1 + 1, 0, none⟩ (.int .i64 6)).heap.size = wn4.heap.size by simp] at hEO
          have hAP := apply_any 1 1 _ (fun _ => (6, oy, oz)) _ (by omega) hEO
          rw [(six_none oy oz).1, (six_none oy oz).2] at hAP
          refine hAP.mono ?_
          rintro en wn6 ⟨Av, cv, Aw, cw, rfl, -, -, hbn⟩
          have B8 := Lib.hid ((B7.alloc B7.size (.cells #[.int .i64 6, .int .i32 oy, .int .i32 oz] 79)).trans (hbn.mono (B7.alloc B7.size _).size))
          clear hbn hAP hEO B7
          go_wp2_with fail
          go_ret
          exact ⟨rfl, B8.out⟩
  · have he0 : (e == 0) = false := by simpa using he
    have he1 : (e != 0) = true := by simpa using he
    clear he
    have O := HO.out.keep hbn
    clear HO c2 f2 z2 y2 n21 n20 c1 f1 z1 y1 n10 c0 f0 z0 y0 zz
    obtain ⟨c2, f2, z2, y2, ⟨n21, n20, -⟩, c1, f1, z1, y1, ⟨n10, -⟩, c0, f0, z0, y0, -, zz⟩ := O.rules
    have HO := Lib.hid O; clear O
    clear hbn
    go_wp2_with fail
    refine (awake_any _).mono ?_
    rintro en wn2 ⟨rfl, hbn⟩
    have O := HO.out.keep hbn
    clear HO c2 f2 z2 y2 n21 n20 c1 f1 z1 y1 n10 c0 f0 z0 y0 zz
    obtain ⟨c2, f2, z2, y2, ⟨n21, n20, -⟩, c1, f1, z1, y1, ⟨n10, -⟩, c0, f0, z0, y0, -, zz⟩ := O.rules
    have HO := Lib.hid O; clear O
    clear hbn
    go_wp2_with fail
    go_ret
    exact ⟨rfl, HO.out.below⟩
theorem likeWays_walk (cI cO cX cT n m c d np cp : Nat) (ox oy oz : Int) (A B Ap : Option Addr) (p : Nat → Int × Int × Nat) (fa fb : Nat → Int) (w : World)
    (hA : NameAt w w.heap.size A n fa) (hB : NameAt w w.heap.size B m fb) (hn : n ≤ 1048576) (hm : m ≤ 1048576) (hnp : np ≤ 1048576) (hp : PairsAt w w.heap.size Ap np p) :
    Calls Try.prog 9 #[.agg #[.float .f64 cI, .float .f64 cO, .float .f64 cX, .float .f64 cT, .slice Ap np cp], .agg #[.slice A n c, .slice B m d], .agg #[.int .i64 ox, .int .i32 oy, .int .i32 oz]] w
      fun en w' => en = .returned (.bool true) ∧ Below w.heap.size w w' := by
  have hT := tabT_is cI cO cX cT p np fa fb
  exact likeWays_core cI cO cX cT n m c d np cp ox oy oz A B Ap p fa fb (tabT cI cO cX cT p np fa fb) (poK (tabT cI cO cX cT p np fa fb) cO cX cT p np fa fb n m) (seK (tabT cI cO cX cT p np fa fb) cO cX cT p np fa fb n m) (errN p np n m) w
    hA hB hn hm hnp hp (hT.cn _ _) (hT.lt _ _)
    (fun w hp => given_any cI cO cX cT Ap np cp p w hnp hp)
    (fun A' c' w hp => wrong_any cI cO cX cT n m c d np c' A B A' p w hn hm hnp hp)
    (fun w hA hB hp => dist_any cI cO cX cT n m c d np cp A B Ap p fa fb w hA hB hn hm hnp hp)
    (fun w hA hB hp => edits_any cI cO cX cT n m c d np cp A B Ap p fa fb w hA hB hn hm hnp hp)
    (fun _ K hK => ⟨atT (tabT cI cO cX cT p np fa fb) (poK (tabT cI cO cX cT p np fa fb) cO cX cT p np fa fb n m) K,
      ⟨way_start hT hK, way_end, fun i hi => way_cost hT hK hi, fun i hi => way_kind hK hi, (way_all hK).1, (way_all hK).2⟩⟩)
section
variable {H : Type} {enc : TypeId × Value → H} {P : Program} {w : World} {spare : Nat → Bool} {held : Bool}
theorem open_edit {r : Reach} {b0 : Nat} {t : TypeId} {g0 g1 g2 : Field} {v : Value} {d : DataW H} {pl : List MemPlace} (ht : P.underlying t = some (.struct #[g0, g1, g2])) (hone' : oneCellFields P #[g0, g1, g2] = true) (hC' : P.cellsOf t = 3)
    (u0 : P.underlying g0.type = some (.int .i64)) (u1 : P.underlying g1.type = some (.int .i32)) (u2 : P.underlying g2.type = some (.int .i32))
    (hv : Value.okWide P w r b0 t v) (h : DataW.Trod enc P w 0 spare held t v d pl) :
    ∃ x y z, v = .agg #[.int .i64 x, .int .i32 y, .int .i32 z] := by
  obtain ⟨cs, rfl, hsz⟩ := okWide_struct ht hv
  obtain ⟨l⟩ := cs
  match l, hsz.trans hC' with
  | [c0, c1, c2], _ =>
    obtain ⟨fuel, hf⟩ := h
    obtain ⟨xs, n, _, hx, _, hlen, hq⟩ := DataW.trod_struct ht hf
    obtain ⟨o0, k0⟩ := hone_of hone' 0 g0 rfl
    obtain ⟨o1, k1⟩ := hone_of hone' 1 g1 rfl
    obtain ⟨o2, k2⟩ := hone_of hone' 2 g2 rfl
    match xs, hlen with
    | [y0, y1, y2], _ =>
      obtain ⟨x, e0, _, l0⟩ := DataW.trod_int u0 (show DataW.trod enc P w 0 spare held n g0.type [c0] = some y0 by simpa [Value.cells, o0, k0] using hq 0 g0 rfl)
      obtain ⟨y, e1, _, l1⟩ := DataW.trod_int u1 (show DataW.trod enc P w 0 spare held n g1.type [c1] = some y1 by simpa [Value.cells, o1, k1] using hq 1 g1 rfl)
      obtain ⟨z, e2, _, l2⟩ := DataW.trod_int u2 (show DataW.trod enc P w 0 spare held n g2.type [c2] = some y2 by simpa [Value.cells, o2, k2] using hq 2 g2 rfl)
      simp only [List.cons.injEq, and_true] at e0 e1 e2
      subst e0 e1 e2
      exact ⟨x, y, z, rfl⟩
end
theorem likeWays_own : ownKnob Try.prog.godebug = none := by kernel_rfl
theorem likeWays_laid : laidOutB Try.prog = true := by kernel_rfl
theorem likeWays_types : ∀ t ∈ ([26, 64, 79] : List TypeId), Try.prog.readableRec t = true ∧ t < Try.prog.types.size := by
  simp only [List.mem_cons, List.not_mem_nil, or_false, forall_eq_or_imp, forall_eq]
  exact ⟨⟨by kernel_rfl, of_decide_eq_true (by kernel_rfl)⟩, ⟨by kernel_rfl, of_decide_eq_true (by kernel_rfl)⟩, ⟨by kernel_rfl, of_decide_eq_true (by kernel_rfl)⟩⟩
set_option maxRecDepth 100000 in
theorem likeWays_lifted (os : Os) (started : os.Started) (H : Type) (enc : TypeId × Value → H) (F : Stop.Interp) :
    ReturnsInHanded {} Try.checked os 9 .any ((Rows.OpenSpec.upto Rows.likeWaysSpec).pre6 enc Try.prog Try.f9 Rows.likeWaysUptoRow.domain false) (((Rows.OpenSpec.upto Rows.likeWaysSpec).at F).post enc Try.prog Try.f9 false true false false) := by
  refine returnsInHanded_of_cond (C := Try.checked) (s := Rows.OpenSpec.upto Rows.likeWaysSpec) (k := Rows.uptoSmall) rfl likeWays_own started (by kernel_rfl) Try.func9
    (OpenSpec.witness (enc := enc) (C := Try.checked) (s := Rows.OpenSpec.upto Rows.likeWaysSpec) (k := Rows.uptoSmall) rfl false ⟨#[], #[.agg #[.float .f64 0, .float .f64 0, .float .f64 0, .float .f64 0, .slice none 0 0], .agg #[.slice none 0 0, .slice none 0 0], .agg #[.int .i64 0, .int .i32 0, .int .i32 0]], []⟩ 8 (by kernel_rfl) (by kernel_rfl) (by kernel_rfl) (x := ([.agg [.lit (.float .f64 0), .lit (.float .f64 0), .lit (.float .f64 0), .lit (.float .f64 0), .nil], .agg [.nil, .nil], .agg [.lit (.int .i64 0), .lit (.int .i32 0), .lit (.int .i32 0)]], [], [])) (by kernel_rfl) rfl (by kernel_rfl)) ?_
  intro W base args ds gs before hval0 hW _ hk _
  have hval : ∀ (j : Nat) t v, Try.f9.params[j]? = some t → args[j]? = some v → Value.okWide Try.prog W .any base t v := hval0
  have hW' := hW
  obtain ⟨p, q, hA0, hV, rfl, hfz, hnd⟩ := hW
  have hA : DataW.TrodAll enc Try.prog W 0 (fun _ => true) true Try.f9.params.toList args.toList ds p := hA0
  obtain ⟨rfl, rfl⟩ := trodVars_none hV
  have hpost : ∀ W', Below W.heap.size W W' → Rows.likeWaysSpec.post enc Try.prog Try.f9 false true false false W args (.bool true) W' := fun W' hb => by
    have hlen : ds.length = 3 := by have hh := hA; rw [Try.params9] at hh; obtain ⟨_, _, d0, ds0, _, _, _, rfl, _, _, hh⟩ := trodAll_cons hh; obtain ⟨_, _, d1, ds1, _, _, _, rfl, _, _, hh⟩ := trodAll_cons hh; obtain ⟨_, _, d2, ds2, _, _, _, rfl, _, _, hh⟩ := trodAll_cons hh; obtain ⟨_, rfl, _⟩ := trodAll_nil hh; simp
    obtain ⟨e0, e1, e2, rfl⟩ : ∃ e0 e1 e2, ds = [e0, e1, e2] := by match ds, hlen with | [e0, e1, e2], _ => exact ⟨e0, e1, e2, rfl⟩
    exact law_post likeWays_laid rfl hW' (by rw [Try.params9]; exact likeWays_types) (tb := 4) (by kernel_rfl) Try.underlying4 rfl rfl rfl hb
  rw [Try.params9] at hA hval
  obtain ⟨v0, vs0, d0, ds0, p0, q0, hargs, rfl, rfl, h0, r0⟩ := trodAll_cons hA
  obtain ⟨v1, vs1, d1, ds1, p1, q1, rfl, rfl, rfl, h1, r1⟩ := trodAll_cons r0
  obtain ⟨v2, vs2, d2, ds2, p2, q2, rfl, rfl, rfl, h2, r2⟩ := trodAll_cons r1
  obtain ⟨rfl, rfl, rfl⟩ := trodAll_nil r2
  obtain rfl : args = #[v0, v1, v2] := by cases args; simp_all
  obtain ⟨cI, cO, cX, cT, Ap, np, cp, p, rfl, bP, nP, lI, lO, lX, lT⟩ := open_costs Try.underlying26 (by kernel_rfl) (by kernel_rfl) Try.underlying23 Try.underlying23 Try.underlying23 Try.underlying23 Try.underlying24 Try.underlying35 (by kernel_rfl) (by kernel_rfl) Try.underlying21 Try.underlying21 Try.underlying33 (hval 0 26 v0 rfl rfl) h0
  obtain ⟨A, n, c, fa, B, m, d, fb, rfl, bN, nA, nB⟩ := open_two Try.underlying64 (by kernel_rfl) (by kernel_rfl) Try.underlying22 Try.underlying22 Try.underlying21 (by kernel_rfl) (hval 1 64 v1 rfl rfl) h1
  obtain ⟨ox, oy, oz, rfl⟩ := open_edit Try.underlying79 (by kernel_rfl) (by kernel_rfl) Try.underlying3 Try.underlying21 Try.underlying21 (hval 2 79 v2 rfl rfl) h2
  have hbk := upto_bound hk
  simp only [Rows.uptoBulkAll, List.cons_append, List.nil_append, List.append_nil] at hbk
  refine (likeWays_walk cI cO cX cT n m c d np cp ox oy oz A B Ap p fa fb W nA nB (by omega) (by omega) (by omega) nP).mono fun e W' ⟨he, hg⟩ => ?_
  subst he
  exact ⟨_, rfl, hpost _ hg⟩

theorem likeWays_holds : Rows.LikeWaysUptoSaid :=
  OpenClaim.holds_of_cond 9 Try.f9 rfl rfl rfl rfl rfl rfl rfl ⟨rfl, rfl, rfl, rfl, rfl⟩ rfl rfl rfl rfl rfl (by kernel_rfl) Try.func9 (by kernel_rfl)
    (of_decide_eq_true (by kernel_rfl)) (by unfold Func.isWrapper; first | (rw [if_pos (by decide +kernel)]; kernel_rfl) | (rw [if_neg (by decide +kernel)]; exact ⟨rfl, rfl⟩))
    (fun os started H enc _ F => likeWays_lifted os started H enc F)
#print axioms likeWays_holds
end Go.Proofs.Ytkhdemaanakbeaa
