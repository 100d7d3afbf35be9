/- The longest row that stands in both, a distance as a share: the law LikeCommons returns true for every input of the bound. Condition: what is read is of bulk at most 1048576. -/
import Derived.Test.YtkhdemaanakbeaaCk
import Derived.Test.YtkhdemaanakbeaaUi
import Derived.Test.YtkhdemaanakbeaaLs
import Derived.Deep.RegionHeld3
namespace Go.Proofs.Ytkhdemaanakbeaa
open Go.RowKit Go.Pst Go.ChangeShapes Go.WideShapes Go.ChangeAt Go.Joins Go.Deep
set_option maxRecDepth 100000
set_option linter.unusedSimpArgs false
set_option linter.unusedVariables false



set_option maxHeartbeats 16000000 in
theorem likeCommons_core (cI cO cX cT n m c d np cp scale sharp t : Nat) (most size : Int) (A B Ap : Option Addr) (p : Nat → Int × Int × Nat) (fa fb : Nat → Int) (l : List Int) (e : Int) (w : World) (wb : Bool) (hwe : wb = true → e ≠ 0)
    (hA : NameAt w w.heap.size A n fa) (hB : NameAt w w.heap.size B m fb) (hn : n ≤ 1048576) (hm : m ≤ 1048576) (hl : l.length ≤ 1048576) (hp : PairsAt w w.heap.size Ap np p) (ht : t < 2 ^ 64)
    (hG : ∀ w, PairsAt w w.heap.size Ap np p → Calls Try.prog 18 #[.agg #[.float .f64 cI, .float .f64 cO, .float .f64 cX, .float .f64 cT, .slice Ap np cp]] w (GivenPost cI cO cX cT np p w))
    (hW : ∀ A' c' w, PairsAt w w.heap.size A' np p → Calls Try.prog 17 #[.agg #[.float .f64 cI, .float .f64 cO, .float .f64 cX, .float .f64 cT, .slice A' np c'], .slice A n c, .slice B m d] w fun en w' => en = .returned (.int .i64 e) ∧ Below w.heap.size w w')
    (hWD : ∀ w, Calls Try.prog 14 #[.slice A n c, .slice B m d] w fun en w' => en = .returned (.bool wb) ∧ w = w')
    (hC0 : wb = true → ∀ w, Calls Try.prog 30 #[.slice A n c, .slice B m d] w fun en w' => en = .returned (.tuple #[.slice none 0 0, .int .i64 271]) ∧ Below w.heap.size w w')
    (hC1 : wb = false → ∀ w, NameAt w w.heap.size A n fa → NameAt w w.heap.size B m fb → Calls Try.prog 30 #[.slice A n c, .slice B m d] w (CommonPost l w))
    (hRC : ∀ w, NameAt w w.heap.size A n fa → NameAt w w.heap.size B m fb → Calls Try.prog 33 #[.slice A n c, .slice B m d] w (RCommonPost l w))
    (hS : ∀ w, NameAt w w.heap.size A n fa → NameAt w w.heap.size B m fb → PairsAt w w.heap.size Ap np p → Calls Try.prog 31 #[.agg #[.float .f64 cI, .float .f64 cO, .float .f64 cX, .float .f64 cT, .slice Ap np cp], .slice A n c, .slice B m d, .float .f64 sharp] w (SharePost t e w))
    (hRS : e = 0 → ∀ A' c' w, NameAt w w.heap.size A n fa → NameAt w w.heap.size B m fb → PairsAt w w.heap.size A' np p → Calls Try.prog 32 #[.agg #[.float .f64 cI, .float .f64 cO, .float .f64 cX, .float .f64 cT, .slice A' np c'], .slice A n c, .slice B m d, .float .f64 sharp] w (FlLike t w)) :
    Calls Try.prog 7 #[.agg #[.float .f64 cI, .float .f64 cO, .float .f64 cX, .float .f64 cT, .slice Ap np cp], .agg #[.slice A n c, .slice B m d], .agg #[.float .f64 scale, .float .f64 sharp, .int .i64 most, .int .i64 size]] w
      fun en w' => en = .returned (.bool true) ∧ Below w.heap.size w w' := by
  have HA := Lib.hid hA; have HB := Lib.hid hB; have HP := Lib.hid hp; have HG := Lib.hid hG; have HWR := Lib.hid hW; have HWD := Lib.hid hWD; have HC0 := Lib.hid hC0; have HC1 := Lib.hid hC1; have HRC := Lib.hid hRC; have HS := Lib.hid hS; have HRS := Lib.hid hRS
  clear hA hB hp hG hW hWD hC0 hC1 hRC hS hRS
  cases wb
  ·
    go_enter Try.func7, Try.ntmps7
    go_wp2_with fail
    have O := (Reg.Own.nil w).alloc rfl #[.float .f64 cI, .float .f64 cO, .float .f64 cX, .float .f64 cT, .slice Ap np cp] 26
    obtain ⟨c0, f0, z0, y0, -, zz⟩ := O.rules
    have HO := Lib.hid O; clear O
    have O := HO.out.alloc (k := w.heap.size + 1) (by simp) #[.slice A n c, .slice B m d] 64
    clear HO c0 f0 z0 y0 zz
    obtain ⟨c1, f1, z1, y1, ⟨n10, -⟩, c0, f0, z0, y0, -, zz⟩ := O.rules
    have HO := Lib.hid O; clear O
    have O := HO.out.alloc (k := w.heap.size + 2) (by simp) #[.float .f64 scale, .float .f64 sharp, .int .i64 most, .int .i64 size] 66
    clear HO c1 f1 z1 y1 n10 c0 f0 z0 y0 zz
    obtain ⟨c2, f2, z2, y2, ⟨n21, n20, -⟩, c1, f1, z1, y1, ⟨n10, -⟩, c0, f0, z0, y0, -, zz⟩ := O.rules
    have HO := Lib.hid O; clear O
    refine Reg.wp_region_rd (by kernel_rfl) (by kernel_rfl) (fun _ => ?_)
    repeat (refine Reg.rd_op rfl ?_; apply Exists.intro; apply And.intro; (intro w' hb; have hc := Reg.rd_cells hb; clear hb; go_simp; (try go_bits); first | done | (with_reducible exact rfl)); (intro _ a' ha'; simp only [Act.put, List.setIfInBounds_toArray, List.set_cons_zero, List.set_cons_succ] at ha'; subst ha'))
    refine Reg.rd_end (fun wz hbn => ?_)
    have O := HO.out.keep hbn
    clear HO c2 f2 z2 y2 n21 n20 c1 f1 z1 y1 n10 c0 f0 z0 y0 zz
    obtain ⟨c2, f2, z2, y2, ⟨n21, n20, -⟩, c1, f1, z1, y1, ⟨n10, -⟩, c0, f0, z0, y0, -, zz⟩ := O.rules
    have HO := Lib.hid O; clear O
    clear hbn
    go_wp2_with fail
    refine (HC1.out (by first | exact rfl | exact trivial) _ ((HA.out.below HO.out.below (Nat.le_refl _)).more HO.out.size) ((HB.out.below HO.out.below (Nat.le_refl _)).more HO.out.size)).mono ?_
    rintro en wn ⟨v, rfl, hown, hbn⟩
    obtain ⟨Al, cl, rfl, hnl⟩ := name_of_own hown
    have HL := Lib.hid hnl
    clear hown hnl
    have O := HO.out.keep hbn
    clear HO c2 f2 z2 y2 n21 n20 c1 f1 z1 y1 n10 c0 f0 z0 y0 zz
    obtain ⟨c2, f2, z2, y2, ⟨n21, n20, -⟩, c1, f1, z1, y1, ⟨n10, -⟩, c0, f0, z0, y0, -, zz⟩ := O.rules
    have HO := Lib.hid O; clear O
    clear hbn
    go_wp2_with fail
    refine (HS.out _ ((HA.out.below HO.out.below (Nat.le_refl _)).more HO.out.size) ((HB.out.below HO.out.below (Nat.le_refl _)).more HO.out.size) ((HP.out.below HO.out.below (Nat.le_refl _)).more HO.out.size)).mono ?_
    rintro en wn ⟨u, rfl, hu1, hu2, hbn⟩
    have HU1 := Lib.hid hu1; have HU2 := Lib.hid hu2; clear hu1 hu2
    replace HL := Lib.hid ((HL.out.below hbn (Nat.le_refl _)).more hbn.size)
    have O := HO.out.keep hbn
    clear HO c2 f2 z2 y2 n21 n20 c1 f1 z1 y1 n10 c0 f0 z0 y0 zz
    obtain ⟨c2, f2, z2, y2, ⟨n21, n20, -⟩, c1, f1, z1, y1, ⟨n10, -⟩, c0, f0, z0, y0, -, zz⟩ := O.rules
    have HO := Lib.hid O; clear O
    clear hbn
    go_wp2_with fail
    refine (HG.out _ ((HP.out.below HO.out.below (Nat.le_refl _)).more HO.out.size)).mono ?_
    rintro en wn ⟨A', c', rfl, hp', hbn⟩
    have HP' := Lib.hid hp'
    clear hp'
    replace HL := Lib.hid ((HL.out.below hbn (Nat.le_refl _)).more hbn.size)
    have O := HO.out.keep hbn
    clear HO c2 f2 z2 y2 n21 n20 c1 f1 z1 y1 n10 c0 f0 z0 y0 zz
    obtain ⟨c2, f2, z2, y2, ⟨n21, n20, -⟩, c1, f1, z1, y1, ⟨n10, -⟩, c0, f0, z0, y0, -, zz⟩ := O.rules
    have HO := Lib.hid O; clear O
    clear hbn
    go_wp2_with fail
    refine (HWR.out _ _ _ HP'.out).mono ?_
    rintro en wn ⟨rfl, hbn⟩
    replace HL := Lib.hid ((HL.out.below hbn (Nat.le_refl _)).more hbn.size)
    clear HP'
    have O := HO.out.keep hbn
    clear HO c2 f2 z2 y2 n21 n20 c1 f1 z1 y1 n10 c0 f0 z0 y0 zz
    obtain ⟨c2, f2, z2, y2, ⟨n21, n20, -⟩, c1, f1, z1, y1, ⟨n10, -⟩, c0, f0, z0, y0, -, zz⟩ := O.rules
    have HO := Lib.hid O; clear O
    clear hbn
    go_wp2_with fail
    by_cases he : e = 0
    · have HE := Lib.hid he
      subst he
      have KS : ∀ w1 w2 : World, Hid (Reg.Own w w1 [(w.heap.size + 2, #[.float .f64 scale, .float .f64 sharp, .int .i64 most, .int .i64 size], 66), (w.heap.size + 1, #[.slice A n c, .slice B m d], 64), (w.heap.size, #[.float .f64 cI, .float .f64 cO, .float .f64 cX, .float .f64 cT, .slice Ap np cp], 26)]) →
          Hid (NameAt w1 w1.heap.size Al l.length (fun k => l.getD k 0)) → Below w1.heap.size w1 w2 →
          w2.cell? ⟨w.heap.size, 0, none⟩ = some (.float .f64 cI) ∧ w2.cell? ⟨w.heap.size, 1, none⟩ = some (.float .f64 cO) ∧ w2.cell? ⟨w.heap.size, 2, none⟩ = some (.float .f64 cX) ∧ w2.cell? ⟨w.heap.size, 3, none⟩ = some (.float .f64 cT) ∧ w2.cell? ⟨w.heap.size, 4, none⟩ = some (.slice Ap np cp) ∧ w2.cell? ⟨w.heap.size + 2, 1, none⟩ = some (.float .f64 sharp) ∧
          Hid (Reg.Own w w2 [(w.heap.size + 2, #[.float .f64 scale, .float .f64 sharp, .int .i64 most, .int .i64 size], 66), (w.heap.size + 1, #[.slice A n c, .slice B m d], 64), (w.heap.size, #[.float .f64 cI, .float .f64 cO, .float .f64 cX, .float .f64 cT, .slice Ap np cp], 26)]) ∧
          Hid (NameAt w2 w2.heap.size Al l.length (fun k => l.getD k 0)) := fun w1 w2 h1 h2 hb => by
        have O := h1.out.keep hb
        obtain ⟨a1, -, -, -, -, a2, -, -, -, -, a3, -⟩ := O.rules
        exact ⟨by rw [a3]; rfl, by rw [a3]; rfl, by rw [a3]; rfl, by rw [a3]; rfl, by rw [a3]; rfl, by rw [a1]; rfl, Lib.hid O, Lib.hid ((h2.out.below hb (Nat.le_refl _)).more hb.size)⟩
      have KSH := Lib.hid KS
      have KPH := Lib.hid (fun (w1 : World) (h1 : Hid (Reg.Own w w1 [(w.heap.size + 2, #[.float .f64 scale, .float .f64 sharp, .int .i64 most, .int .i64 size], 66), (w.heap.size + 1, #[.slice A n c, .slice B m d], 64), (w.heap.size, #[.float .f64 cI, .float .f64 cO, .float .f64 cX, .float .f64 cT, .slice Ap np cp], 26)])) =>
        show NameAt w1 w1.heap.size A n fa ∧ NameAt w1 w1.heap.size B m fb ∧ PairsAt w1 w1.heap.size Ap np p from ⟨(HA.out.below h1.out.below (Nat.le_refl _)).more h1.out.size, (HB.out.below h1.out.below (Nat.le_refl _)).more h1.out.size, (HP.out.below h1.out.below (Nat.le_refl _)).more h1.out.size⟩)
      clear KS
      go_region_held3 (fun w2 => w2.cell? ⟨w.heap.size, 0, none⟩ = some (.float .f64 cI) ∧ w2.cell? ⟨w.heap.size, 1, none⟩ = some (.float .f64 cO) ∧ w2.cell? ⟨w.heap.size, 2, none⟩ = some (.float .f64 cX) ∧ w2.cell? ⟨w.heap.size, 3, none⟩ = some (.float .f64 cT) ∧ w2.cell? ⟨w.heap.size, 4, none⟩ = some (.slice Ap np cp) ∧ w2.cell? ⟨w.heap.size + 2, 1, none⟩ = some (.float .f64 sharp) ∧
          Hid (Reg.Own w w2 [(w.heap.size + 2, #[.float .f64 scale, .float .f64 sharp, .int .i64 most, .int .i64 size], 66), (w.heap.size + 1, #[.slice A n c, .slice B m d], 64), (w.heap.size, #[.float .f64 cI, .float .f64 cO, .float .f64 cX, .float .f64 cT, .slice Ap np cp], 26)]) ∧
          Hid (NameAt w2 w2.heap.size Al l.length (fun k => l.getD k 0)))
        (first | (go_split_ands; exact KSH.out _ _ (by assumption) (by assumption) (by assumption)) | (go_split_ands; exact KSH.out _ _ (by assumption) (by assumption) (Below.refl _ _).drew) | (go_split_ands; exact KSH.out _ _ (by assumption) (by assumption) (Below.refl _ _)))
        (first
          | (go_at_call 15; refine (awake_any _).mono ?_; rintro en wn ⟨rfl, hbn⟩)
          | (go_at_call 32; go_split_ands; refine (HRS.out (by first | exact rfl | exact trivial) _ _ _ (KPH.out _ (by assumption)).1 (KPH.out _ (by assumption)).2.1 HP2.out).mono ?_; rintro en wn ⟨u2, rfl, hu2, hbn⟩; have HU3 := Lib.hid hu2; clear hu2)
          | (go_at_call 19; refine (alike_any u u2 t _ (HU2.out (by first | exact rfl | exact trivial)) HU3.out ht).mono ?_; rintro en wn ⟨rfl, hbn⟩)
          | (go_at_call 18; go_split_ands; refine (HG.out _ (KPH.out _ (by assumption)).2.2).mono ?_; rintro en wn ⟨A2, c2, rfl, hp2, hbn⟩; have HP2 := Lib.hid hp2; clear hp2))
      go_split_ands
      clear HO HL
      have HO := (by assumption : Hid (Reg.Own w wn [(w.heap.size + 2, #[.float .f64 scale, .float .f64 sharp, .int .i64 most, .int .i64 size], 66), (w.heap.size + 1, #[.slice A n c, .slice B m d], 64), (w.heap.size, #[.float .f64 cI, .float .f64 cO, .float .f64 cX, .float .f64 cT, .slice Ap np cp], 26)]))
      have HL := (by assumption : Hid (NameAt wn wn.heap.size Al l.length (fun k => l.getD k 0)))
      clear hbn
      clear KSH KPH
      go_wp2_with fail
      refine (HWD.out _).mono ?_
      rintro en wq ⟨rfl, rfl⟩
      go_wp2_with fail
      refine (HRC.out _ ((HA.out.below HO.out.below (Nat.le_refl _)).more HO.out.size) ((HB.out.below HO.out.below (Nat.le_refl _)).more HO.out.size)).mono ?_
      rintro en wr ⟨vr, rfl, hownr, hbn⟩
      obtain ⟨Ar, cr, rfl, hnr⟩ := name_of_own hownr
      have HR := Lib.hid hnr
      replace HL := Lib.hid ((HL.out.below hbn (Nat.le_refl _)).more hbn.size)
      replace HO := Lib.hid (HO.out.keep hbn)
      clear hownr hnr hbn
      go_wp2_with fail
      refine (names_any Al Ar l.length l.length cl cr _ _ _ HL.out HR.out hl hl).mono ?_
      rw [show sameB l.length l.length (fun k => l.getD k 0) (fun k => l.getD k 0) = true from by unfold sameB; simp]
      rintro en ws ⟨rfl, hbn⟩
      have hbe := Lib.hid (HO.out.below.trans (hbn.mono HO.out.size))
      clear hbn
      go_wp2_with fail
      go_ret
      exact ⟨rfl, hbe.out⟩
    · have he0 : (e == 0) = false := by simpa using he
      have he1 : (e != 0) = true := by simpa using he
      have HE := Lib.hid he
      clear he
      refine Reg.wp_region_rd (by kernel_rfl) (by kernel_rfl) (fun _ => ?_)
      refine Reg.rd_op rfl ?_; apply Exists.intro; apply And.intro
      · intro w' hb; have hsz := Reg.rd_size hb; clear hb; go_simp; (try go_bits); with_reducible exact awake_any _
      intro _ a' ha'; simp only [Act.put, List.setIfInBounds_toArray, List.set_cons_zero, List.set_cons_succ] at ha'; subst ha'
      repeat (refine Reg.rd_op rfl ?_; apply Exists.intro; apply And.intro; (intro w' hb; have hc := Reg.rd_cells hb; clear hb; go_simp; (try go_bits); first | done | (with_reducible exact rfl)); (intro _ a' ha'; simp only [Act.put, List.setIfInBounds_toArray, List.set_cons_zero, List.set_cons_succ] at ha'; subst ha'))
      repeat (refine Reg.rd_skip rfl ?_; intro a' ha'; simp only [Act.put, List.setIfInBounds_toArray, List.set_cons_zero, List.set_cons_succ] at ha'; subst ha')
      repeat (refine Reg.rd_op rfl ?_; apply Exists.intro; apply And.intro; (intro w' hb; have hc := Reg.rd_cells hb; clear hb; go_simp; (try go_bits); first | done | (with_reducible exact rfl)); (intro _ a' ha'; simp only [Act.put, List.setIfInBounds_toArray, List.set_cons_zero, List.set_cons_succ] at ha'; subst ha'))
      refine Reg.rd_end (fun wz hbn => ?_)
      replace HL := Lib.hid ((HL.out.below hbn (Nat.le_refl _)).more hbn.size)
      have O := HO.out.keep hbn
      clear HO c2 f2 z2 y2 n21 n20 c1 f1 z1 y1 n10 c0 f0 z0 y0 zz
      obtain ⟨c2, f2, z2, y2, ⟨n21, n20, -⟩, c1, f1, z1, y1, ⟨n10, -⟩, c0, f0, z0, y0, -, zz⟩ := O.rules
      have HO := Lib.hid O; clear O
      clear hbn
      go_wp2_with fail
      clear c2 f2 z2 y2 n21 n20 c1 f1 z1 y1 n10 c0 f0 z0 y0 zz
      refine (HWD.out _).mono ?_
      rintro en wq ⟨rfl, rfl⟩
      go_wp2_with fail
      refine (HRC.out _ ((HA.out.below HO.out.below (Nat.le_refl _)).more HO.out.size) ((HB.out.below HO.out.below (Nat.le_refl _)).more HO.out.size)).mono ?_
      rintro en wr ⟨vr, rfl, hownr, hbn⟩
      obtain ⟨Ar, cr, rfl, hnr⟩ := name_of_own hownr
      have HR := Lib.hid hnr
      replace HL := Lib.hid ((HL.out.below hbn (Nat.le_refl _)).more hbn.size)
      replace HO := Lib.hid (HO.out.keep hbn)
      clear hownr hnr hbn
      go_wp2_with fail
      refine (names_any Al Ar l.length l.length cl cr _ _ _ HL.out HR.out hl hl).mono ?_
      rw [show sameB l.length l.length (fun k => l.getD k 0) (fun k => l.getD k 0) = true from by unfold sameB; simp]
      rintro en ws ⟨rfl, hbn⟩
      have hbe := Lib.hid (HO.out.below.trans (hbn.mono HO.out.size))
      clear hbn
      go_wp2_with fail
      go_ret
      exact ⟨rfl, hbe.out⟩
  ·
    go_enter Try.func7, Try.ntmps7
    go_wp2_with fail
    have O := (Reg.Own.nil w).alloc rfl #[.float .f64 cI, .float .f64 cO, .float .f64 cX, .float .f64 cT, .slice Ap np cp] 26
    obtain ⟨c0, f0, z0, y0, -, zz⟩ := O.rules
    have HO := Lib.hid O; clear O
    have O := HO.out.alloc (k := w.heap.size + 1) (by simp) #[.slice A n c, .slice B m d] 64
    clear HO c0 f0 z0 y0 zz
    obtain ⟨c1, f1, z1, y1, ⟨n10, -⟩, c0, f0, z0, y0, -, zz⟩ := O.rules
    have HO := Lib.hid O; clear O
    have O := HO.out.alloc (k := w.heap.size + 2) (by simp) #[.float .f64 scale, .float .f64 sharp, .int .i64 most, .int .i64 size] 66
    clear HO c1 f1 z1 y1 n10 c0 f0 z0 y0 zz
    obtain ⟨c2, f2, z2, y2, ⟨n21, n20, -⟩, c1, f1, z1, y1, ⟨n10, -⟩, c0, f0, z0, y0, -, zz⟩ := O.rules
    have HO := Lib.hid O; clear O
    refine Reg.wp_region_rd (by kernel_rfl) (by kernel_rfl) (fun _ => ?_)
    repeat (refine Reg.rd_op rfl ?_; apply Exists.intro; apply And.intro; (intro w' hb; have hc := Reg.rd_cells hb; clear hb; go_simp; (try go_bits); first | done | (with_reducible exact rfl)); (intro _ a' ha'; simp only [Act.put, List.setIfInBounds_toArray, List.set_cons_zero, List.set_cons_succ] at ha'; subst ha'))
    refine Reg.rd_end (fun wz hbn => ?_)
    have O := HO.out.keep hbn
    clear HO c2 f2 z2 y2 n21 n20 c1 f1 z1 y1 n10 c0 f0 z0 y0 zz
    obtain ⟨c2, f2, z2, y2, ⟨n21, n20, -⟩, c1, f1, z1, y1, ⟨n10, -⟩, c0, f0, z0, y0, -, zz⟩ := O.rules
    have HO := Lib.hid O; clear O
    clear hbn
    go_wp2_with fail
    refine (HC0.out (by first | exact rfl | exact trivial) _).mono ?_
    rintro en wn ⟨rfl, hbn⟩
    have O := HO.out.keep hbn
    clear HO c2 f2 z2 y2 n21 n20 c1 f1 z1 y1 n10 c0 f0 z0 y0 zz
    obtain ⟨c2, f2, z2, y2, ⟨n21, n20, -⟩, c1, f1, z1, y1, ⟨n10, -⟩, c0, f0, z0, y0, -, zz⟩ := O.rules
    have HO := Lib.hid O; clear O
    clear hbn
    go_wp2_with fail
    refine (HS.out _ ((HA.out.below HO.out.below (Nat.le_refl _)).more HO.out.size) ((HB.out.below HO.out.below (Nat.le_refl _)).more HO.out.size) ((HP.out.below HO.out.below (Nat.le_refl _)).more HO.out.size)).mono ?_
    rintro en wn ⟨u, rfl, hu1, hu2, hbn⟩
    clear hu1 hu2
    have O := HO.out.keep hbn
    clear HO c2 f2 z2 y2 n21 n20 c1 f1 z1 y1 n10 c0 f0 z0 y0 zz
    obtain ⟨c2, f2, z2, y2, ⟨n21, n20, -⟩, c1, f1, z1, y1, ⟨n10, -⟩, c0, f0, z0, y0, -, zz⟩ := O.rules
    have HO := Lib.hid O; clear O
    clear hbn
    go_wp2_with fail
    refine (HG.out _ ((HP.out.below HO.out.below (Nat.le_refl _)).more HO.out.size)).mono ?_
    rintro en wn ⟨A', c', rfl, hp', hbn⟩
    have HP' := Lib.hid hp'
    clear hp'
    have O := HO.out.keep hbn
    clear HO c2 f2 z2 y2 n21 n20 c1 f1 z1 y1 n10 c0 f0 z0 y0 zz
    obtain ⟨c2, f2, z2, y2, ⟨n21, n20, -⟩, c1, f1, z1, y1, ⟨n10, -⟩, c0, f0, z0, y0, -, zz⟩ := O.rules
    have HO := Lib.hid O; clear O
    clear hbn
    go_wp2_with fail
    refine (HWR.out _ _ _ HP'.out).mono ?_
    rintro en wn ⟨rfl, hbn⟩
    clear HP'
    have O := HO.out.keep hbn
    clear HO c2 f2 z2 y2 n21 n20 c1 f1 z1 y1 n10 c0 f0 z0 y0 zz
    obtain ⟨c2, f2, z2, y2, ⟨n21, n20, -⟩, c1, f1, z1, y1, ⟨n10, -⟩, c0, f0, z0, y0, -, zz⟩ := O.rules
    have HO := Lib.hid O; clear O
    clear hbn
    go_wp2_with fail
    have he : e ≠ 0 := hwe (by first | exact rfl | exact trivial)
    have he0 : (e == 0) = false := by simpa using he
    have he1 : (e != 0) = true := by simpa using he
    clear he hwe
    refine Reg.wp_region_rd (by kernel_rfl) (by kernel_rfl) (fun _ => ?_)
    refine Reg.rd_op rfl ?_; apply Exists.intro; apply And.intro
    · intro w' hb; have hsz := Reg.rd_size hb; clear hb; go_simp; (try go_bits); with_reducible exact awake_any _
    intro _ a' ha'; simp only [Act.put, List.setIfInBounds_toArray, List.set_cons_zero, List.set_cons_succ] at ha'; subst ha'
    repeat (refine Reg.rd_op rfl ?_; apply Exists.intro; apply And.intro; (intro w' hb; have hc := Reg.rd_cells hb; clear hb; go_simp; (try go_bits); first | done | (with_reducible exact rfl)); (intro _ a' ha'; simp only [Act.put, List.setIfInBounds_toArray, List.set_cons_zero, List.set_cons_succ] at ha'; subst ha'))
    repeat (refine Reg.rd_skip rfl ?_; intro a' ha'; simp only [Act.put, List.setIfInBounds_toArray, List.set_cons_zero, List.set_cons_succ] at ha'; subst ha')
    repeat (refine Reg.rd_op rfl ?_; apply Exists.intro; apply And.intro; (intro w' hb; have hc := Reg.rd_cells hb; clear hb; go_simp; (try go_bits); first | done | (with_reducible exact rfl)); (intro _ a' ha'; simp only [Act.put, List.setIfInBounds_toArray, List.set_cons_zero, List.set_cons_succ] at ha'; subst ha'))
    refine Reg.rd_end (fun wz hbn => ?_)
    have O := HO.out.keep hbn
    clear HO c2 f2 z2 y2 n21 n20 c1 f1 z1 y1 n10 c0 f0 z0 y0 zz
    obtain ⟨c2, f2, z2, y2, ⟨n21, n20, -⟩, c1, f1, z1, y1, ⟨n10, -⟩, c0, f0, z0, y0, -, zz⟩ := O.rules
    have HO := Lib.hid O; clear O
    clear hbn
    go_wp2_with fail
    refine (HWD.out _).mono ?_
    rintro en wq ⟨rfl, rfl⟩
    go_wp2_with fail
    go_ret
    exact ⟨rfl, HO.out.below⟩

theorem likeCommons_walk (cI cO cX cT n m c d np cp scale sharp : Nat) (most size : Int) (A B Ap : Option Addr) (p : Nat → Int × Int × Nat) (fa fb : Nat → Int) (w : World)
    (hA : NameAt w w.heap.size A n fa) (hB : NameAt w w.heap.size B m fb) (hn : n ≤ 1048576) (hm : m ≤ 1048576) (hnp : np ≤ 1048576) (hp : PairsAt w w.heap.size Ap np p) :
    Calls Try.prog 7 #[.agg #[.float .f64 cI, .float .f64 cO, .float .f64 cX, .float .f64 cT, .slice Ap np cp], .agg #[.slice A n c, .slice B m d], .agg #[.float .f64 scale, .float .f64 sharp, .int .i64 most, .int .i64 size]] w
      fun en w' => en = .returned (.bool true) ∧ Below w.heap.size w w' :=
  likeCommons_core cI cO cX cT n m c d np cp scale sharp (sfV (tabT cI cO cX cT p np fa fb n m) sharp) most size A B Ap p fa fb (cm n m fa fb 0 0) (errN p np n m) w (wideB n m)
    (fun h => by unfold errN; rw [h]; split <;> simp) hA hB hn hm (by
      rw [cm_length _ 0 0 (Nat.le_refl _) (by omega)]
      exact Nat.le_trans lc_n (by omega)) hp (sfV_cn _ _).2
    (fun w hp => given_any cI cO cX cT Ap np cp p w hnp hp)
    (fun A' c' w hp => wrong_any cI cO cX cT n m c d np c' A B A' p w hn hm hnp hp)
    (fun w => wide_any n m c d A B w hn hm)
    (fun h w => common_wide n m c d A B w hn hm h)
    (fun h w hA hB => common_any n m c d A B fa fb w hA hB hn hm h)
    (fun w hA hB => rcommon_any n m c d A B fa fb w hA hB hn hm)
    (fun w hA hB hp => soft_core cI cO cX cT n m c d np cp sharp A B Ap _ _ w fun w' hb =>
      dist_any cI cO cX cT n m c d np cp A B Ap p fa fb w' ((hA.below hb (Nat.le_refl _)).more hb.size) ((hB.below hb (Nat.le_refl _)).more hb.size) hn hm hnp ((hp.below hb (Nat.le_refl _)).more hb.size))
    (fun h A' c' w hA hB hp => rsoft_core cI cO cX cT n m c d np c' sharp A B A' _ w fun w' hb =>
      rdist_any cI cO cX cT n m c d np c' A B A' p fa fb w' ((hA.below hb (Nat.le_refl _)).more hb.size) ((hB.below hb (Nat.le_refl _)).more hb.size) hn hm (err_ok h).1 ((hp.below hb (Nat.le_refl _)).more hb.size) (err_ok h).2.1)

theorem likeCommons_own : ownKnob Try.prog.godebug = none := by kernel_rfl
theorem likeCommons_laid : laidOutB Try.prog = true := by kernel_rfl
theorem likeCommons_types : ∀ t ∈ ([26, 64, 66] : List TypeId), Try.prog.readableRec t = true ∧ t < Try.prog.types.size := by
  simp only [List.mem_cons, List.not_mem_nil, or_false, forall_eq_or_imp, forall_eq]
  exact ⟨⟨by kernel_rfl, of_decide_eq_true (by kernel_rfl)⟩, ⟨by kernel_rfl, of_decide_eq_true (by kernel_rfl)⟩, ⟨by kernel_rfl, of_decide_eq_true (by kernel_rfl)⟩⟩
set_option maxRecDepth 100000 in
theorem likeCommons_lifted (os : Os) (started : os.Started) (H : Type) (enc : TypeId × Value → H) (F : Stop.Interp) :
    ReturnsInHanded {} Try.checked os 7 .any ((Rows.OpenSpec.upto Rows.likeCommonsSpec).pre6 enc Try.prog Try.f7 Rows.likeCommonsUptoRow.domain false) (((Rows.OpenSpec.upto Rows.likeCommonsSpec).at F).post enc Try.prog Try.f7 false true false false) := by
  refine returnsInHanded_of_cond (C := Try.checked) (s := Rows.OpenSpec.upto Rows.likeCommonsSpec) (k := Rows.uptoSmall) rfl likeCommons_own started (by kernel_rfl) Try.func7
    (OpenSpec.witness (enc := enc) (C := Try.checked) (s := Rows.OpenSpec.upto Rows.likeCommonsSpec) (k := Rows.uptoSmall) rfl false ⟨#[], #[.agg #[.float .f64 0, .float .f64 0, .float .f64 0, .float .f64 0, .slice none 0 0], .agg #[.slice none 0 0, .slice none 0 0], .agg #[.float .f64 0, .float .f64 0, .int .i64 0, .int .i64 0]], []⟩ 8 (by kernel_rfl) (by kernel_rfl) (by kernel_rfl) (x := ([.agg [.lit (.float .f64 0), .lit (.float .f64 0), .lit (.float .f64 0), .lit (.float .f64 0), .nil], .agg [.nil, .nil], .agg [.lit (.float .f64 0), .lit (.float .f64 0), .lit (.int .i64 0), .lit (.int .i64 0)]], [], [])) (by kernel_rfl) rfl (by kernel_rfl)) ?_
  intro W base args ds gs before hval0 hW _ hk _
  have hval : ∀ (j : Nat) t v, Try.f7.params[j]? = some t → args[j]? = some v → Value.okWide Try.prog W .any base t v := hval0
  have hW' := hW
  obtain ⟨p, q, hA0, hV, rfl, hfz, hnd⟩ := hW
  have hA : DataW.TrodAll enc Try.prog W 0 (fun _ => true) true Try.f7.params.toList args.toList ds p := hA0
  obtain ⟨rfl, rfl⟩ := trodVars_none hV
  have hpost : ∀ W', Below W.heap.size W W' → Rows.likeCommonsSpec.post enc Try.prog Try.f7 false true false false W args (.bool true) W' := fun W' hb => by
    have hlen : ds.length = 3 := by have hh := hA; rw [Try.params7] at hh; obtain ⟨_, _, d0, ds0, _, _, _, rfl, _, _, hh⟩ := trodAll_cons hh; obtain ⟨_, _, d1, ds1, _, _, _, rfl, _, _, hh⟩ := trodAll_cons hh; obtain ⟨_, _, d2, ds2, _, _, _, rfl, _, _, hh⟩ := trodAll_cons hh; obtain ⟨_, rfl, _⟩ := trodAll_nil hh; simp
    obtain ⟨e0, e1, e2, rfl⟩ : ∃ e0 e1 e2, ds = [e0, e1, e2] := by match ds, hlen with | [e0, e1, e2], _ => exact ⟨e0, e1, e2, rfl⟩
    exact law_post likeCommons_laid rfl hW' (by rw [Try.params7]; exact likeCommons_types) (tb := 4) (by kernel_rfl) Try.underlying4 rfl rfl rfl hb
  rw [Try.params7] at hA hval
  obtain ⟨v0, vs0, d0, ds0, p0, q0, hargs, rfl, rfl, h0, r0⟩ := trodAll_cons hA
  obtain ⟨v1, vs1, d1, ds1, p1, q1, rfl, rfl, rfl, h1, r1⟩ := trodAll_cons r0
  obtain ⟨v2, vs2, d2, ds2, p2, q2, rfl, rfl, rfl, h2, r2⟩ := trodAll_cons r1
  obtain ⟨rfl, rfl, rfl⟩ := trodAll_nil r2
  obtain rfl : args = #[v0, v1, v2] := by cases args; simp_all
  obtain ⟨cI, cO, cX, cT, Ap, np, cp, p, rfl, bP, nP, lI, lO, lX, lT⟩ := open_costs Try.underlying26 (by kernel_rfl) (by kernel_rfl) Try.underlying23 Try.underlying23 Try.underlying23 Try.underlying23 Try.underlying24 Try.underlying35 (by kernel_rfl) (by kernel_rfl) Try.underlying21 Try.underlying21 Try.underlying33 (hval 0 26 v0 rfl rfl) h0
  obtain ⟨A, n, c, fa, B, m, d, fb, rfl, bN, nA, nB⟩ := open_two Try.underlying64 (by kernel_rfl) (by kernel_rfl) Try.underlying22 Try.underlying22 Try.underlying21 (by kernel_rfl) (hval 1 64 v1 rfl rfl) h1
  obtain ⟨scale, sharp, most, size, rfl, lx, ly, ls, lu⟩ := open_sharp Try.underlying66 (by kernel_rfl) (by kernel_rfl) Try.underlying23 Try.underlying23 Try.underlying3 Try.underlying3 (hval 2 66 v2 rfl rfl) h2
  have hbk := upto_bound hk
  simp only [Rows.uptoBulkAll, List.cons_append, List.nil_append, List.append_nil] at hbk
  refine (likeCommons_walk cI cO cX cT n m c d np cp scale sharp most size A B Ap p fa fb W nA nB (by omega) (by omega) (by omega) nP).mono fun e W' ⟨he, hg⟩ => ?_
  subst he
  exact ⟨_, rfl, hpost _ hg⟩

theorem likeCommons_holds : Rows.LikeCommonsUptoSaid :=
  OpenClaim.holds_of_cond 7 Try.f7 rfl rfl rfl rfl rfl rfl rfl ⟨rfl, rfl, rfl, rfl, rfl⟩ rfl rfl rfl rfl rfl (by kernel_rfl) Try.func7 (by kernel_rfl)
    (of_decide_eq_true (by kernel_rfl)) (by unfold Func.isWrapper; first | (rw [if_pos (by decide +kernel)]; kernel_rfl) | (rw [if_neg (by decide +kernel)]; exact ⟨rfl, rfl⟩))
    (fun os started H enc _ F => likeCommons_lifted os started H enc F)
#print axioms likeCommons_holds

end Go.Proofs.Ytkhdemaanakbeaa
