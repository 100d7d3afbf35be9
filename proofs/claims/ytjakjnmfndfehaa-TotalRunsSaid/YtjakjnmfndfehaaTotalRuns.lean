/- Numbers as they come: mean, spread, least, greatest; two know nothing of one another: the law TotalRuns returns true for every input and leaves its lists as they were. No condition. -/
import Derived.Test.YtjakjnmfndfehaaVe
import Derived.Test.YtjakjnmfndfehaaOq
import Derived.Deep.DeepCutAuto
import Derived.Deep.CutBlock
namespace Go.Proofs.Ytjakjnmfndfehaa
open Go.RowKit Go.Pst Go.ChangeShapes Go.WideShapes Go.ChangeAt Go.Joins Go.Deep
set_option maxRecDepth 20000
set_option linter.unusedSimpArgs false
set_option linter.unusedVariables false
theorem own_of {w0 w : World} {l l' : List (Nat × Array Value × TypeId)} (h : Reg.Own w0 w l) (hs : ∀ x ∈ l', x ∈ l) (hp : l'.Pairwise (fun x y => x.1 ≠ y.1)) : Reg.Own w0 w l' :=
  ⟨h.below, fun x hx => h.blk x (hs x hx), hp⟩
/-- What a Running and the document's Run hold of the same n numbers. -/
def RunSt (n : Nat) (cx cp : Array Value) : Prop := ∃ M S L G M' S' L' G', cx = runC n M S L G ∧ cp = runC n M' S' L' G' ∧ cn M = cn M' ∧ cn S = cn S' ∧ (n ≠ 0 → cn L = cn L') ∧ (n ≠ 0 → cn G = cn G') ∧ (n = 0 → L' = 0 ∧ G' = 0) ∧ L < 2 ^ 64 ∧ G < 2 ^ 64 ∧ L' < 2 ^ 64 ∧ G' < 2 ^ 64
theorem runSt_zero : RunSt 0 (runC 0 0 0 0 0) (runC 0 0 0 0 0) := ⟨0, 0, 0, 0, 0, 0, 0, 0, rfl, rfl, rfl, rfl, fun h => absurd rfl h, fun h => absurd rfl h, fun _ => ⟨rfl, rfl⟩, by decide, by decide, by decide, by decide⟩
theorem lV_cn {n L L' x : Nat} (h : n ≠ 0 → cn L = cn L') : cn (lV n L x) = cn (lV n L' x) := by
  unfold lV
  by_cases hn : n = 0
  · rw [if_pos hn, if_pos hn]
  · rw [if_neg hn, if_neg hn]
    have e := h hn
    cases hl : nan64 L
    · have hl' : nan64 L' = false := by rw [← cn_nan, ← e, cn_nan]; exact hl
      rw [cn_of L hl, cn_of L' hl'] at e
      rw [e]
    · have hl' : nan64 L' = true := by rw [← cn_nan, ← e, cn_nan]; exact hl
      unfold minF; rw [hl, hl', if_pos rfl, if_pos rfl]; exact e
theorem gV_cn {n L L' x : Nat} (h : n ≠ 0 → cn L = cn L') : cn (gV n L x) = cn (gV n L' x) := by
  unfold gV
  by_cases hn : n = 0
  · rw [if_pos hn, if_pos hn]
  · rw [if_neg hn, if_neg hn]
    have e := h hn
    cases hl : nan64 L
    · have hl' : nan64 L' = false := by rw [← cn_nan, ← e, cn_nan]; exact hl
      rw [cn_of L hl, cn_of L' hl'] at e
      rw [e]
    · have hl' : nan64 L' = true := by rw [← cn_nan, ← e, cn_nan]; exact hl
      unfold maxF; rw [hl, hl', if_pos rfl, if_pos rfl]; exact e
theorem lV_lt {n L x : Nat} (hL : L < 2 ^ 64) (hx : x < 2 ^ 64) : lV n L x < 2 ^ 64 ∧ gV n L x < 2 ^ 64 := by
  unfold lV gV minF maxF
  constructor <;> (repeat' split) <;> assumption
/-- One number more, on both sides. -/
theorem runSt_next {n M S L G M' S' L' G' x M2 S2 M2' S2' L2' G2' : Nat} (hx : x < 2 ^ 64) (h1 : cn M = cn M') (h2 : cn S = cn S') (h3 : n ≠ 0 → cn L = cn L') (h4 : n ≠ 0 → cn G = cn G') (hL : L < 2 ^ 64) (hG : G < 2 ^ 64)
    (a1 : cn M2 = mV n M x) (a2 : cn S2 = sV n M S x) (b1 : cn M2' = mV n M' x) (b2 : cn S2' = sV n M' S' x) (b3 : cn L2' = cn (lV n L' x)) (b4 : cn G2' = cn (gV n G' x)) (b5 : L2' < 2 ^ 64) (b6 : G2' < 2 ^ 64) :
    RunSt (n + 1) (runC (n + 1) M2 S2 (lV n L x) (gV n G x)) (runC (n + 1) M2' S2' L2' G2') := by
  have e1 : mV n M x = mV n M' x := by
    unfold mV
    exact arV_cn .add h1 (by rw [arV_cn .quo (by rw [arV_cn .sub rfl h1]) rfl])
  have e2 : sV n M S x = sV n M' S' x := by
    unfold sV
    rw [e1]
    exact arV_cn .add h2 (by rw [arV_cn .mul (by rw [arV_cn .sub rfl h1]) rfl])
  refine ⟨_, _, _, _, _, _, _, _, rfl, rfl, by rw [a1, b1, e1], by rw [a2, b2, e2], fun _ => by rw [b3]; exact lV_cn h3, fun _ => by rw [b4]; exact gV_cn h4, fun h => by omega, (lV_lt hL hx).1, (lV_lt hG hx).2, b5, b6⟩
set_option maxHeartbeats 8000000 in
theorem totalRuns_walk (n c m d : Nat) (A M : Option Addr) (f g : Nat → Nat) (w : World) (hN : n ≤ 17592186044416) (hM : m ≤ 17592186044416) (hA : FlAt w w.heap.size A n f) (hm : FlAt w w.heap.size M m g)
    (hf : ∀ j, j < n → f j < 2 ^ 64) (hg : ∀ j, j < m → g j < 2 ^ 64) :
    Calls Try.prog 13 #[.slice A n c, .slice M m d] w fun en w' => en = .returned (.bool true) ∧ Below w.heap.size w w' := by
  have h00 : fne .f64 0 0 = false := by decide
  by_cases hn : n ≤ 1000 ∧ m ≤ 1000
  · obtain ⟨hn3, hm3⟩ := hn
    have HA := Lib.hid hA; have HM := Lib.hid hm; have HF := Lib.hid hf; have HG := Lib.hid hg
    clear hA hm hf hg
    have hn1 : ¬ (n : Int) > 1000 := by omega
    have hn2 : ¬ 1000 < (n : Int) := by omega
    have hm1 : ¬ (m : Int) > 1000 := by omega
    have hm2 : ¬ 1000 < (m : Int) := by omega
    go_enter Try.func13, Try.ntmps13
    go_wp2_with fail
    refine (newrun_any w).mono ?_
    rintro en w1 ⟨rfl, rfl⟩
    go_wp2_with fail
    refine (newrun_any _).mono ?_
    rintro en w2 ⟨rfl, rfl⟩
    go_wp2_with fail
    refine (awake_any _).mono ?_
    rintro en w3 ⟨rfl, hb3⟩
    have O3 := Lib.hid ((((Reg.Own.nil w).alloc rfl (runC 0 0 0 0 0) 107).alloc (k := w.heap.size + 1) (by simp) (runC 0 0 0 0 0) 107).swap.keep hb3)
    clear hb3
    go_wp2_with fail
    refine (radd_nil _).mono ?_
    rintro en w99 ⟨rfl, rfl⟩
    go_wp2_with fail
    refine (rmean_nil _).mono ?_
    rintro en w99 ⟨rfl, rfl⟩
    go_wp2_with fail
    refine (rvar_nil _).mono ?_
    rintro en w99 ⟨rfl, rfl⟩
    go_wp2_with fail
    refine (rleast_nil _).mono ?_
    rintro en w99 ⟨rfl, rfl⟩
    go_wp2_with fail
    have hs3 : w.heap.size + 1 < w3.heap.size := (O3.out.blk (w.heap.size + 1, runC 0 0 0 0 0, 107) (by simp)).1.lt
    have O5 := Lib.hid (own_of (l' := [(w.heap.size, runC 0 0 0 0 0, 107), (w3.heap.size, runC 0 0 0 0 0, 72), (w.heap.size + 1, runC 0 0 0 0 0, 107), (w3.heap.size + 1, runC 0 0 0 0 0, 72)])
      ((O3.out.alloc rfl (runC 0 0 0 0 0) 72).alloc (k := w3.heap.size + 1) (by simp) (runC 0 0 0 0 0) 72) (by simp) (by simp; omega))
    clear O3
    go_loopw [12] (fun t wr => ∃ (i : Nat) (cx cp cy cq : Array Value), t = .int .i64 i ∧ (i ≤ n ∨ i ≤ m) ∧ RunSt (min i n) cx cp ∧ RunSt (min i m) cy cq ∧
        Reg.Own w wr [(w.heap.size, cx, 107), (w3.heap.size, cp, 72), (w.heap.size + 1, cy, 107), (w3.heap.size + 1, cq, 72)]) (fun t _ => (n + m) - (intOf t).toNat)
    case atStart => exact ⟨0, _, _, _, _, rfl, by omega, by simpa using runSt_zero, by simpa using runSt_zero, O5.out⟩
    case round =>
      clear O5
      obtain ⟨i, cx, cp, cy, cq, rfl, hi, hrx, hry, hO⟩ := hrel
      by_cases hin : i < n
      · have h3 : (i : Int) < (n : Int) := by omega
        have h0 : (0 : Int) ≤ (i : Int) := by omega
        rw [show min i n = i by omega] at hrx
        obtain ⟨M1, S1, L1, G1, M2, S2, L2, G2, rfl, rfl, k1, k2, k3, k4, k5, k6, k7, k8, k9⟩ := hrx
        have K := Lib.hid (runSt_next (M2 := 0) (S2 := 0) (M2' := 0) (S2' := 0) (L2' := 0) (G2' := 0) (HF.out i hin) k1 k2 k3 k4 k6 k7)
        obtain ⟨a9, o9, rfl, hab, hc9⟩ := (HA.out.below hO.below (Nat.le_refl _)) (by omega)
        have q := hc9 i hin
        have O := hO
        obtain ⟨c3, f3, z3, y3, ⟨n32, n31, n30, -⟩, c2, f2, z2, y2, ⟨n21, n20, -⟩, c1, f1, z1, y1, ⟨n10, -⟩, c0, f0, z0, y0, -, zz⟩ := O.rules
        have HO := Lib.hid O; clear O
        clear hc9 hO
        go_wp2_with fail
        clear q
        refine (radd_any w wr _ i M1 S1 L1 G1 (f i) _ HO.out (by omega) (HF.out i hin) k6 k7).mono ?_
        rintro en wa ⟨rfl, M3, S3, ha1, ha2, hOa⟩
        obtain ⟨a8, o8, e8, hab2, hc8⟩ := (HA.out.below hOa.below (Nat.le_refl _)) (by omega)
        cases e8
        have q2 := hc8 i hin
        have hal9 := Nat.lt_of_lt_of_le hab2 hOa.below.size
        have O := hOa
        clear HO c3 f3 z3 y3 n32 n31 n30 c2 f2 z2 y2 n21 n20 c1 f1 z1 y1 n10 c0 f0 z0 y0 zz
        obtain ⟨c3, f3, z3, y3, ⟨n32, n31, n30, -⟩, c2, f2, z2, y2, ⟨n21, n20, -⟩, c1, f1, z1, y1, ⟨n10, -⟩, c0, f0, z0, y0, -, zz⟩ := O.rules
        have HO := Lib.hid O; clear O
        clear hc8 hOa
        go_wp2_with fail
        refine Reg.wp_region_lex_tail (Reg.rd _) 5 (by kernel_rfl) (by kernel_rfl) (Below.drew (Below.refl _ _)) ?_
        simp only [List.take_succ_cons, List.take_zero, List.drop_succ_cons, List.drop_zero]
        repeat (refine Reg.rd_op rfl ?_; apply Exists.intro; apply And.intro; (intro w' hb; have hc := Reg.rd_cells hb; clear hb; go_simp; (try go_bits); first | done | (with_reducible exact rfl)); (intro _ a' ha'; simp only [Act.put, List.setIfInBounds_toArray, List.set_cons_zero, List.set_cons_succ] at ha'; subst ha'))
        refine Reg.rd_end (fun wz hb => ?_)
        have O := HO.out.keep hb
        clear HO c3 f3 z3 y3 n32 n31 n30 c2 f2 z2 y2 n21 n20 c1 f1 z1 y1 n10 c0 f0 z0 y0 zz
        obtain ⟨c3, f3, z3, y3, ⟨n32, n31, n30, -⟩, c2, f2, z2, y2, ⟨n21, n20, -⟩, c1, f1, z1, y1, ⟨n10, -⟩, c0, f0, z0, y0, -, zz⟩ := O.rules
        have HO := Lib.hid O; clear O
        clear hb q2 hal9
        go_wp2_with fail
        refine (dadd_any _ i M2 S2 L2 G2 (f i) (by omega) (HF.out i hin) k8 k9).mono ?_
        rintro en wb ⟨M4, S4, L4, G4, rfl, hb1, hb2, hb3, hb4, hb5, hb6, hbw⟩
        have O := HO.out.keep hbw
        clear HO c3 f3 z3 y3 n32 n31 n30 c2 f2 z2 y2 n21 n20 c1 f1 z1 y1 n10 c0 f0 z0 y0 zz
        obtain ⟨c3, f3, z3, y3, ⟨n32, n31, n30, -⟩, c2, f2, z2, y2, ⟨n21, n20, -⟩, c1, f1, z1, y1, ⟨n10, -⟩, c0, f0, z0, y0, -, zz⟩ := O.rules
        have HO := Lib.hid O; clear O
        clear hbw
        have HX := Lib.hid (runSt_next (HF.out i hin) k1 k2 k3 k4 k6 k7 ha1 ha2 hb1 hb2 hb3 hb4 hb5 hb6)
        clear k1 k2 k3 k4 k5 k6 k7 k8 k9 ha1 ha2 hb1 hb2 hb3 hb4 hb5 hb6
        go_upto_region 18 with fail
        refine wp_world (fun W' => Reg.Own w W' [(w.heap.size, runC (i + 1) M3 S3 (lV i L1 (f i)) (gV i G1 (f i)), 107), (w3.heap.size, runC (i + 1) M4 S4 L4 G4, 72), (w.heap.size+1, cy, 107), (w3.heap.size+1, cq, 72)]) ?_ ?_
        · refine own_of (l := [(w3.heap.size, runC (i + 1) M4 S4 L4 G4, 72), (w.heap.size, runC (i + 1) M3 S3 (lV i L1 (f i)) (gV i G1 (f i)), 107), (w.heap.size+1, cy, 107), (w3.heap.size+1, cq, 72)]) ?_ (by simp) (by simp; omega)
          have o9 := own_of HO.out (l' := [(w3.heap.size, runC i M2 S2 L2 G2, 72), (w.heap.size, runC (i + 1) M3 S3 (lV i L1 (f i)) (gV i G1 (f i)), 107), (w.heap.size+1, cy, 107), (w3.heap.size+1, cq, 72)]) (by simp) (by simp; omega)
          exact ((((o9.set 0 (.int .i64 ((i + 1 : Nat) : Int))).set 1 (.float .f64 M4)).set 2 (.float .f64 S4)).set 3 (.float .f64 L4)).set 4 (.float .f64 G4)
        intro w5 hO
        obtain ⟨cx, hcx⟩ : ∃ c, c = runC (i + 1) M3 S3 (lV i L1 (f i)) (gV i G1 (f i)) := ⟨_, rfl⟩
        obtain ⟨cp, hcp⟩ : ∃ c, c = runC (i + 1) M4 S4 L4 G4 := ⟨_, rfl⟩
        rw [← hcx, ← hcp] at hO HX
        clear hcx hcp HO c3 f3 z3 y3 n32 n31 n30 c2 f2 z2 y2 n21 n20 c1 f1 z1 y1 n10 c0 f0 z0 y0 zz
        rw [show i + 1 = min (i + 1) n by omega] at HX
        by_cases him : i < m
        · skip
          have h3' : (i : Int) < (m : Int) := by omega
          have h0 : (0 : Int) ≤ (i : Int) := by omega
          rw [show min i m = i by omega] at hry
          obtain ⟨M1, S1, L1, G1, M2, S2, L2, G2, rfl, rfl, k1, k2, k3, k4, k5, k6, k7, k8, k9⟩ := hry
          obtain ⟨b9, o7, rfl, hbb, hc9⟩ := (HM.out.below hO.below (Nat.le_refl _)) (by omega)
          have q := hc9 i him
          have hO2 := own_of hO (l' := [(w.heap.size + 1, runC i M1 S1 L1 G1, 107), (w3.heap.size + 1, runC i M2 S2 L2 G2, 72), (w.heap.size, cx, 107), (w3.heap.size, cp, 72)]) (by simp) (by simp; omega)
          have O := hO2
          obtain ⟨c3, f3, z3, y3, ⟨n32, n31, n30, -⟩, c2, f2, z2, y2, ⟨n21, n20, -⟩, c1, f1, z1, y1, ⟨n10, -⟩, c0, f0, z0, y0, -, zz⟩ := O.rules
          have HO := Lib.hid O; clear O
          clear hc9 hO hO2
          go_wp2_with fail
          clear q
          refine (radd_any w w5 _ i M1 S1 L1 G1 (g i) _ HO.out (by omega) (HG.out i him) k6 k7).mono ?_
          rintro en wa ⟨rfl, M3, S3, ha1, ha2, hOa⟩
          obtain ⟨a8, o8, e8, hab2, hc8⟩ := (HM.out.below hOa.below (Nat.le_refl _)) (by omega)
          cases e8
          have q2 := hc8 i him
          have hal9 := Nat.lt_of_lt_of_le hab2 hOa.below.size
          have O := hOa
          clear HO c3 f3 z3 y3 n32 n31 n30 c2 f2 z2 y2 n21 n20 c1 f1 z1 y1 n10 c0 f0 z0 y0 zz
          obtain ⟨c3, f3, z3, y3, ⟨n32, n31, n30, -⟩, c2, f2, z2, y2, ⟨n21, n20, -⟩, c1, f1, z1, y1, ⟨n10, -⟩, c0, f0, z0, y0, -, zz⟩ := O.rules
          have HO := Lib.hid O; clear O
          clear hc8 hOa
          go_wp2_with fail
          refine Reg.wp_region_lex_tail (Reg.rd _) 5 (by kernel_rfl) (by kernel_rfl) (Below.drew (Below.refl _ _)) ?_
          simp only [List.take_succ_cons, List.take_zero, List.drop_succ_cons, List.drop_zero]
          repeat (refine Reg.rd_op rfl ?_; apply Exists.intro; apply And.intro; (intro w' hb; have hc := Reg.rd_cells hb; clear hb; go_simp; (try go_bits); first | done | (with_reducible exact rfl)); (intro _ a' ha'; simp only [Act.put, List.setIfInBounds_toArray, List.set_cons_zero, List.set_cons_succ] at ha'; subst ha'))
          refine Reg.rd_end (fun wz hb => ?_)
          have O := HO.out.keep hb
          clear HO c3 f3 z3 y3 n32 n31 n30 c2 f2 z2 y2 n21 n20 c1 f1 z1 y1 n10 c0 f0 z0 y0 zz
          obtain ⟨c3, f3, z3, y3, ⟨n32, n31, n30, -⟩, c2, f2, z2, y2, ⟨n21, n20, -⟩, c1, f1, z1, y1, ⟨n10, -⟩, c0, f0, z0, y0, -, zz⟩ := O.rules
          have HO := Lib.hid O; clear O
          clear hb q2 hal9
          go_wp2_with fail
          refine (dadd_any _ i M2 S2 L2 G2 (g i) (by omega) (HG.out i him) k8 k9).mono ?_
          rintro en wb ⟨M4, S4, L4, G4, rfl, hb1, hb2, hb3, hb4, hb5, hb6, hbw⟩
          have O := HO.out.keep hbw
          clear HO c3 f3 z3 y3 n32 n31 n30 c2 f2 z2 y2 n21 n20 c1 f1 z1 y1 n10 c0 f0 z0 y0 zz
          obtain ⟨c3, f3, z3, y3, ⟨n32, n31, n30, -⟩, c2, f2, z2, y2, ⟨n21, n20, -⟩, c1, f1, z1, y1, ⟨n10, -⟩, c0, f0, z0, y0, -, zz⟩ := O.rules
          have HO := Lib.hid O; clear O
          clear hbw
          have HY := Lib.hid (runSt_next (HG.out i him) k1 k2 k3 k4 k6 k7 ha1 ha2 hb1 hb2 hb3 hb4 hb5 hb6)
          clear k1 k2 k3 k4 k5 k6 k7 k8 k9 ha1 ha2 hb1 hb2 hb3 hb4 hb5 hb6
          go_upto_region 22 with fail
          refine wp_world (fun W' => Reg.Own w W' [(w.heap.size+1, runC (i + 1) M3 S3 (lV i L1 (g i)) (gV i G1 (g i)), 107), (w3.heap.size+1, runC (i + 1) M4 S4 L4 G4, 72), (w.heap.size, cx, 107), (w3.heap.size, cp, 72)]) ?_ ?_
          · refine own_of (l := [(w3.heap.size+1, runC (i + 1) M4 S4 L4 G4, 72), (w.heap.size+1, runC (i + 1) M3 S3 (lV i L1 (g i)) (gV i G1 (g i)), 107), (w.heap.size, cx, 107), (w3.heap.size, cp, 72)]) ?_ (by simp) (by simp; omega)
            have o9 := own_of HO.out (l' := [(w3.heap.size+1, runC i M2 S2 L2 G2, 72), (w.heap.size+1, runC (i + 1) M3 S3 (lV i L1 (g i)) (gV i G1 (g i)), 107), (w.heap.size, cx, 107), (w3.heap.size, cp, 72)]) (by simp) (by simp; omega)
            exact ((((o9.set 0 (.int .i64 ((i + 1 : Nat) : Int))).set 1 (.float .f64 M4)).set 2 (.float .f64 S4)).set 3 (.float .f64 L4)).set 4 (.float .f64 G4)
          intro w7 hO
          obtain ⟨cy, hcx⟩ : ∃ c, c = runC (i + 1) M3 S3 (lV i L1 (g i)) (gV i G1 (g i)) := ⟨_, rfl⟩
          obtain ⟨cq, hcp⟩ : ∃ c, c = runC (i + 1) M4 S4 L4 G4 := ⟨_, rfl⟩
          rw [← hcx, ← hcp] at hO HY
          clear hcx hcp HO c3 f3 z3 y3 n32 n31 n30 c2 f2 z2 y2 n21 n20 c1 f1 z1 y1 n10 c0 f0 z0 y0 zz
          replace hO := own_of hO (l' := [(w.heap.size, cx, 107), (w3.heap.size, cp, 72), (w.heap.size + 1, cy, 107), (w3.heap.size + 1, cq, 72)]) (by simp) (by simp; omega)
          rw [show i + 1 = min (i + 1) m by omega] at HY
          obtain ⟨M1, S1, L1, G1, M2, S2, L2, G2, rfl, rfl, k1, k2, k3, k4, k5, -, -, -, -⟩ := HX.out
          obtain ⟨N1, T1, U1, V1, N2, T2, U2, V2, rfl, rfl, j1, j2, j3, j4, j5, -, -, -, -⟩ := HY.out
          have O := hO
          obtain ⟨c3, f3, z3, y3, ⟨n32, n31, n30, -⟩, c2, f2, z2, y2, ⟨n21, n20, -⟩, c1, f1, z1, y1, ⟨n10, -⟩, c0, f0, z0, y0, -, zz⟩ := O.rules
          have HO := Lib.hid O; clear O
          clear hO
          go_wp2_with fail
          refine (runs_any w.heap.size _ M1 S1 L1 G1 M2 S2 L2 G2 _ (HO.out.blk (w.heap.size, runC _ M1 S1 L1 G1, 107) (by simp)).1 k1 k2 k3 k4 k5).mono ?_
          rintro en w8 ⟨rfl, hbx⟩
          have O := HO.out.keep hbx
          clear HO c3 f3 z3 y3 n32 n31 n30 c2 f2 z2 y2 n21 n20 c1 f1 z1 y1 n10 c0 f0 z0 y0 zz
          obtain ⟨c3, f3, z3, y3, ⟨n32, n31, n30, -⟩, c2, f2, z2, y2, ⟨n21, n20, -⟩, c1, f1, z1, y1, ⟨n10, -⟩, c0, f0, z0, y0, -, zz⟩ := O.rules
          have HO := Lib.hid O; clear O
          clear hbx
          go_wp2_with fail
          refine (runs_any (w.heap.size + 1) _ N1 T1 U1 V1 N2 T2 U2 V2 _ (HO.out.blk (w.heap.size + 1, runC _ N1 T1 U1 V1, 107) (by simp)).1 j1 j2 j3 j4 j5).mono ?_
          rintro en w9 ⟨rfl, hbx⟩
          have O := HO.out.keep hbx
          clear HO c3 f3 z3 y3 n32 n31 n30 c2 f2 z2 y2 n21 n20 c1 f1 z1 y1 n10 c0 f0 z0 y0 zz
          obtain ⟨c3, f3, z3, y3, ⟨n32, n31, n30, -⟩, c2, f2, z2, y2, ⟨n21, n20, -⟩, c1, f1, z1, y1, ⟨n10, -⟩, c0, f0, z0, y0, -, zz⟩ := O.rules
          have HO := Lib.hid O; clear O
          clear hbx k1 k2 k3 k4 k5 j1 j2 j3 j4 j5
          go_wp2_with fail
          go_roundw
          case rel => exact ⟨i + 1, _, _, _, _, by go_num, by omega, HX.out, HY.out, HO.out⟩
          case measure => (simp [intOf] <;> omega)
        · have h3' : ¬ (i : Int) < (m : Int) := by omega
          rw [show min i m = min (i + 1) m by omega] at hry
          have HY := Lib.hid hry
          clear hry
          obtain ⟨M1, S1, L1, G1, M2, S2, L2, G2, rfl, rfl, k1, k2, k3, k4, k5, -, -, -, -⟩ := HX.out
          obtain ⟨N1, T1, U1, V1, N2, T2, U2, V2, rfl, rfl, j1, j2, j3, j4, j5, -, -, -, -⟩ := HY.out
          have O := hO
          obtain ⟨c3, f3, z3, y3, ⟨n32, n31, n30, -⟩, c2, f2, z2, y2, ⟨n21, n20, -⟩, c1, f1, z1, y1, ⟨n10, -⟩, c0, f0, z0, y0, -, zz⟩ := O.rules
          have HO := Lib.hid O; clear O
          clear hO
          go_wp2_with fail
          refine (runs_any w.heap.size _ M1 S1 L1 G1 M2 S2 L2 G2 _ (HO.out.blk (w.heap.size, runC _ M1 S1 L1 G1, 107) (by simp)).1 k1 k2 k3 k4 k5).mono ?_
          rintro en w8 ⟨rfl, hbx⟩
          have O := HO.out.keep hbx
          clear HO c3 f3 z3 y3 n32 n31 n30 c2 f2 z2 y2 n21 n20 c1 f1 z1 y1 n10 c0 f0 z0 y0 zz
          obtain ⟨c3, f3, z3, y3, ⟨n32, n31, n30, -⟩, c2, f2, z2, y2, ⟨n21, n20, -⟩, c1, f1, z1, y1, ⟨n10, -⟩, c0, f0, z0, y0, -, zz⟩ := O.rules
          have HO := Lib.hid O; clear O
          clear hbx
          go_wp2_with fail
          refine (runs_any (w.heap.size + 1) _ N1 T1 U1 V1 N2 T2 U2 V2 _ (HO.out.blk (w.heap.size + 1, runC _ N1 T1 U1 V1, 107) (by simp)).1 j1 j2 j3 j4 j5).mono ?_
          rintro en w9 ⟨rfl, hbx⟩
          have O := HO.out.keep hbx
          clear HO c3 f3 z3 y3 n32 n31 n30 c2 f2 z2 y2 n21 n20 c1 f1 z1 y1 n10 c0 f0 z0 y0 zz
          obtain ⟨c3, f3, z3, y3, ⟨n32, n31, n30, -⟩, c2, f2, z2, y2, ⟨n21, n20, -⟩, c1, f1, z1, y1, ⟨n10, -⟩, c0, f0, z0, y0, -, zz⟩ := O.rules
          have HO := Lib.hid O; clear O
          clear hbx k1 k2 k3 k4 k5 j1 j2 j3 j4 j5
          go_wp2_with fail
          go_roundw
          case rel => exact ⟨i + 1, _, _, _, _, by go_num, by omega, HX.out, HY.out, HO.out⟩
          case measure => (simp [intOf] <;> omega)
      · have h3 : ¬ (i : Int) < (n : Int) := by omega
        rw [show min i n = min (i + 1) n by omega] at hrx
        have HX := Lib.hid hrx
        clear hrx
        by_cases him : i < m
        · have h3'' : (i : Int) < (m : Int) := by omega
          go_upto_region 18 with fail
          have h3' : (i : Int) < (m : Int) := by omega
          have h0 : (0 : Int) ≤ (i : Int) := by omega
          rw [show min i m = i by omega] at hry
          obtain ⟨M1, S1, L1, G1, M2, S2, L2, G2, rfl, rfl, k1, k2, k3, k4, k5, k6, k7, k8, k9⟩ := hry
          obtain ⟨b9, o7, rfl, hbb, hc9⟩ := (HM.out.below hO.below (Nat.le_refl _)) (by omega)
          have q := hc9 i him
          have hO2 := own_of hO (l' := [(w.heap.size + 1, runC i M1 S1 L1 G1, 107), (w3.heap.size + 1, runC i M2 S2 L2 G2, 72), (w.heap.size, cx, 107), (w3.heap.size, cp, 72)]) (by simp) (by simp; omega)
          have O := hO2
          obtain ⟨c3, f3, z3, y3, ⟨n32, n31, n30, -⟩, c2, f2, z2, y2, ⟨n21, n20, -⟩, c1, f1, z1, y1, ⟨n10, -⟩, c0, f0, z0, y0, -, zz⟩ := O.rules
          have HO := Lib.hid O; clear O
          clear hc9 hO hO2
          go_wp2_with fail
          clear q
          refine (radd_any w wr _ i M1 S1 L1 G1 (g i) _ HO.out (by omega) (HG.out i him) k6 k7).mono ?_
          rintro en wa ⟨rfl, M3, S3, ha1, ha2, hOa⟩
          obtain ⟨a8, o8, e8, hab2, hc8⟩ := (HM.out.below hOa.below (Nat.le_refl _)) (by omega)
          cases e8
          have q2 := hc8 i him
          have hal9 := Nat.lt_of_lt_of_le hab2 hOa.below.size
          have O := hOa
          clear HO c3 f3 z3 y3 n32 n31 n30 c2 f2 z2 y2 n21 n20 c1 f1 z1 y1 n10 c0 f0 z0 y0 zz
          obtain ⟨c3, f3, z3, y3, ⟨n32, n31, n30, -⟩, c2, f2, z2, y2, ⟨n21, n20, -⟩, c1, f1, z1, y1, ⟨n10, -⟩, c0, f0, z0, y0, -, zz⟩ := O.rules
          have HO := Lib.hid O; clear O
          clear hc8 hOa
          go_wp2_with fail
          refine Reg.wp_region_lex_tail (Reg.rd _) 5 (by kernel_rfl) (by kernel_rfl) (Below.drew (Below.refl _ _)) ?_
          simp only [List.take_succ_cons, List.take_zero, List.drop_succ_cons, List.drop_zero]
          repeat (refine Reg.rd_op rfl ?_; apply Exists.intro; apply And.intro; (intro w' hb; have hc := Reg.rd_cells hb; clear hb; go_simp; (try go_bits); first | done | (with_reducible exact rfl)); (intro _ a' ha'; simp only [Act.put, List.setIfInBounds_toArray, List.set_cons_zero, List.set_cons_succ] at ha'; subst ha'))
          refine Reg.rd_end (fun wz hb => ?_)
          have O := HO.out.keep hb
          clear HO c3 f3 z3 y3 n32 n31 n30 c2 f2 z2 y2 n21 n20 c1 f1 z1 y1 n10 c0 f0 z0 y0 zz
          obtain ⟨c3, f3, z3, y3, ⟨n32, n31, n30, -⟩, c2, f2, z2, y2, ⟨n21, n20, -⟩, c1, f1, z1, y1, ⟨n10, -⟩, c0, f0, z0, y0, -, zz⟩ := O.rules
          have HO := Lib.hid O; clear O
          clear hb q2 hal9
          go_wp2_with fail
          refine (dadd_any _ i M2 S2 L2 G2 (g i) (by omega) (HG.out i him) k8 k9).mono ?_
          rintro en wb ⟨M4, S4, L4, G4, rfl, hb1, hb2, hb3, hb4, hb5, hb6, hbw⟩
          have O := HO.out.keep hbw
          clear HO c3 f3 z3 y3 n32 n31 n30 c2 f2 z2 y2 n21 n20 c1 f1 z1 y1 n10 c0 f0 z0 y0 zz
          obtain ⟨c3, f3, z3, y3, ⟨n32, n31, n30, -⟩, c2, f2, z2, y2, ⟨n21, n20, -⟩, c1, f1, z1, y1, ⟨n10, -⟩, c0, f0, z0, y0, -, zz⟩ := O.rules
          have HO := Lib.hid O; clear O
          clear hbw
          have HY := Lib.hid (runSt_next (HG.out i him) k1 k2 k3 k4 k6 k7 ha1 ha2 hb1 hb2 hb3 hb4 hb5 hb6)
          clear k1 k2 k3 k4 k5 k6 k7 k8 k9 ha1 ha2 hb1 hb2 hb3 hb4 hb5 hb6
          go_upto_region 22 with fail
          refine wp_world (fun W' => Reg.Own w W' [(w.heap.size+1, runC (i + 1) M3 S3 (lV i L1 (g i)) (gV i G1 (g i)), 107), (w3.heap.size+1, runC (i + 1) M4 S4 L4 G4, 72), (w.heap.size, cx, 107), (w3.heap.size, cp, 72)]) ?_ ?_
          · refine own_of (l := [(w3.heap.size+1, runC (i + 1) M4 S4 L4 G4, 72), (w.heap.size+1, runC (i + 1) M3 S3 (lV i L1 (g i)) (gV i G1 (g i)), 107), (w.heap.size, cx, 107), (w3.heap.size, cp, 72)]) ?_ (by simp) (by simp; omega)
            have o9 := own_of HO.out (l' := [(w3.heap.size+1, runC i M2 S2 L2 G2, 72), (w.heap.size+1, runC (i + 1) M3 S3 (lV i L1 (g i)) (gV i G1 (g i)), 107), (w.heap.size, cx, 107), (w3.heap.size, cp, 72)]) (by simp) (by simp; omega)
            exact ((((o9.set 0 (.int .i64 ((i + 1 : Nat) : Int))).set 1 (.float .f64 M4)).set 2 (.float .f64 S4)).set 3 (.float .f64 L4)).set 4 (.float .f64 G4)
          intro w7 hO
          obtain ⟨cy, hcx⟩ : ∃ c, c = runC (i + 1) M3 S3 (lV i L1 (g i)) (gV i G1 (g i)) := ⟨_, rfl⟩
          obtain ⟨cq, hcp⟩ : ∃ c, c = runC (i + 1) M4 S4 L4 G4 := ⟨_, rfl⟩
          rw [← hcx, ← hcp] at hO HY
          clear hcx hcp HO c3 f3 z3 y3 n32 n31 n30 c2 f2 z2 y2 n21 n20 c1 f1 z1 y1 n10 c0 f0 z0 y0 zz
          replace hO := own_of hO (l' := [(w.heap.size, cx, 107), (w3.heap.size, cp, 72), (w.heap.size + 1, cy, 107), (w3.heap.size + 1, cq, 72)]) (by simp) (by simp; omega)
          rw [show i + 1 = min (i + 1) m by omega] at HY
          obtain ⟨M1, S1, L1, G1, M2, S2, L2, G2, rfl, rfl, k1, k2, k3, k4, k5, -, -, -, -⟩ := HX.out
          obtain ⟨N1, T1, U1, V1, N2, T2, U2, V2, rfl, rfl, j1, j2, j3, j4, j5, -, -, -, -⟩ := HY.out
          have O := hO
          obtain ⟨c3, f3, z3, y3, ⟨n32, n31, n30, -⟩, c2, f2, z2, y2, ⟨n21, n20, -⟩, c1, f1, z1, y1, ⟨n10, -⟩, c0, f0, z0, y0, -, zz⟩ := O.rules
          have HO := Lib.hid O; clear O
          clear hO
          go_wp2_with fail
          refine (runs_any w.heap.size _ M1 S1 L1 G1 M2 S2 L2 G2 _ (HO.out.blk (w.heap.size, runC _ M1 S1 L1 G1, 107) (by simp)).1 k1 k2 k3 k4 k5).mono ?_
          rintro en w8 ⟨rfl, hbx⟩
          have O := HO.out.keep hbx
          clear HO c3 f3 z3 y3 n32 n31 n30 c2 f2 z2 y2 n21 n20 c1 f1 z1 y1 n10 c0 f0 z0 y0 zz
          obtain ⟨c3, f3, z3, y3, ⟨n32, n31, n30, -⟩, c2, f2, z2, y2, ⟨n21, n20, -⟩, c1, f1, z1, y1, ⟨n10, -⟩, c0, f0, z0, y0, -, zz⟩ := O.rules
          have HO := Lib.hid O; clear O
          clear hbx
          go_wp2_with fail
          refine (runs_any (w.heap.size + 1) _ N1 T1 U1 V1 N2 T2 U2 V2 _ (HO.out.blk (w.heap.size + 1, runC _ N1 T1 U1 V1, 107) (by simp)).1 j1 j2 j3 j4 j5).mono ?_
          rintro en w9 ⟨rfl, hbx⟩
          have O := HO.out.keep hbx
          clear HO c3 f3 z3 y3 n32 n31 n30 c2 f2 z2 y2 n21 n20 c1 f1 z1 y1 n10 c0 f0 z0 y0 zz
          obtain ⟨c3, f3, z3, y3, ⟨n32, n31, n30, -⟩, c2, f2, z2, y2, ⟨n21, n20, -⟩, c1, f1, z1, y1, ⟨n10, -⟩, c0, f0, z0, y0, -, zz⟩ := O.rules
          have HO := Lib.hid O; clear O
          clear hbx k1 k2 k3 k4 k5 j1 j2 j3 j4 j5
          go_wp2_with fail
          go_roundw
          case rel => exact ⟨i + 1, _, _, _, _, by go_num, by omega, HX.out, HY.out, HO.out⟩
          case measure => (simp [intOf] <;> omega)
        · have h3' : ¬ (i : Int) < (m : Int) := by omega
          rw [show min (i + 1) n = n by omega] at HX
          rw [show min i m = m by omega] at hry
          have HY := Lib.hid hry
          clear hry
          obtain ⟨M1, S1, L1, G1, M2, S2, L2, G2, rfl, rfl, k1, k2, k3, k4, k5, -, -, -, -⟩ := HX.out
          obtain ⟨N1, T1, U1, V1, N2, T2, U2, V2, rfl, rfl, j1, j2, j3, j4, j5, -, -, -, -⟩ := HY.out
          have O := hO
          obtain ⟨c3, f3, z3, y3, ⟨n32, n31, n30, -⟩, c2, f2, z2, y2, ⟨n21, n20, -⟩, c1, f1, z1, y1, ⟨n10, -⟩, c0, f0, z0, y0, -, zz⟩ := O.rules
          have HO := Lib.hid O; clear O
          clear hO
          go_wp2_with fail
          refine (runs_any w.heap.size _ M1 S1 L1 G1 M2 S2 L2 G2 _ (HO.out.blk (w.heap.size, runC _ M1 S1 L1 G1, 107) (by simp)).1 k1 k2 k3 k4 k5).mono ?_
          rintro en w8 ⟨rfl, hbx⟩
          have O := HO.out.keep hbx
          clear HO c3 f3 z3 y3 n32 n31 n30 c2 f2 z2 y2 n21 n20 c1 f1 z1 y1 n10 c0 f0 z0 y0 zz
          obtain ⟨c3, f3, z3, y3, ⟨n32, n31, n30, -⟩, c2, f2, z2, y2, ⟨n21, n20, -⟩, c1, f1, z1, y1, ⟨n10, -⟩, c0, f0, z0, y0, -, zz⟩ := O.rules
          have HO := Lib.hid O; clear O
          clear hbx
          go_wp2_with fail
          refine (runs_any (w.heap.size + 1) _ N1 T1 U1 V1 N2 T2 U2 V2 _ (HO.out.blk (w.heap.size + 1, runC _ N1 T1 U1 V1, 107) (by simp)).1 j1 j2 j3 j4 j5).mono ?_
          rintro en w9 ⟨rfl, hbx⟩
          have O := HO.out.keep hbx
          clear HO c3 f3 z3 y3 n32 n31 n30 c2 f2 z2 y2 n21 n20 c1 f1 z1 y1 n10 c0 f0 z0 y0 zz
          obtain ⟨c3, f3, z3, y3, ⟨n32, n31, n30, -⟩, c2, f2, z2, y2, ⟨n21, n20, -⟩, c1, f1, z1, y1, ⟨n10, -⟩, c0, f0, z0, y0, -, zz⟩ := O.rules
          have HO := Lib.hid O; clear O
          clear hbx k1 k2 k3 k4 k5 j1 j2 j3 j4 j5
          go_wp2_with fail
          go_ret
          exact ⟨rfl, HO.out.below⟩
  · clear hA hm hf hg
    by_cases hn3 : 1000 < n
    · have hn1 : (n : Int) > 1000 := by omega
      have hn2 : 1000 < (n : Int) := by omega
      clear hn
      go_enter Try.func13, Try.ntmps13
      go_wp2_with fail
      refine (newrun_any w).mono ?_
      rintro en w1 ⟨rfl, rfl⟩
      go_wp2_with fail
      refine (newrun_any _).mono ?_
      rintro en w2 ⟨rfl, rfl⟩
      go_wp2_with fail
      refine (awake_any _).mono ?_
      rintro en w3 ⟨rfl, hb3⟩
      have O3 := Lib.hid ((((Reg.Own.nil w).alloc rfl (runC 0 0 0 0 0) 107).alloc (k := w.heap.size + 1) (by simp) (runC 0 0 0 0 0) 107).swap.keep hb3)
      clear hb3
      go_wp2_with fail
      refine (radd_nil _).mono ?_
      rintro en w99 ⟨rfl, rfl⟩
      go_wp2_with fail
      refine (rmean_nil _).mono ?_
      rintro en w99 ⟨rfl, rfl⟩
      go_wp2_with fail
      refine (rvar_nil _).mono ?_
      rintro en w99 ⟨rfl, rfl⟩
      go_wp2_with fail
      refine (rleast_nil _).mono ?_
      rintro en w99 ⟨rfl, rfl⟩
      go_wp2_with fail
      go_ret
      exact ⟨rfl, O3.out.below⟩
    · have hn1 : ¬ (n : Int) > 1000 := by omega
      have hn2 : ¬ 1000 < (n : Int) := by omega
      have hm1 : (m : Int) > 1000 := by omega
      have hm2 : 1000 < (m : Int) := by omega
      clear hn
      go_enter Try.func13, Try.ntmps13
      go_wp2_with fail
      refine (newrun_any w).mono ?_
      rintro en w1 ⟨rfl, rfl⟩
      go_wp2_with fail
      refine (newrun_any _).mono ?_
      rintro en w2 ⟨rfl, rfl⟩
      go_wp2_with fail
      refine (awake_any _).mono ?_
      rintro en w3 ⟨rfl, hb3⟩
      have O3 := Lib.hid ((((Reg.Own.nil w).alloc rfl (runC 0 0 0 0 0) 107).alloc (k := w.heap.size + 1) (by simp) (runC 0 0 0 0 0) 107).swap.keep hb3)
      clear hb3
      go_wp2_with fail
      refine (radd_nil _).mono ?_
      rintro en w99 ⟨rfl, rfl⟩
      go_wp2_with fail
      refine (rmean_nil _).mono ?_
      rintro en w99 ⟨rfl, rfl⟩
      go_wp2_with fail
      refine (rvar_nil _).mono ?_
      rintro en w99 ⟨rfl, rfl⟩
      go_wp2_with fail
      refine (rleast_nil _).mono ?_
      rintro en w99 ⟨rfl, rfl⟩
      go_wp2_with fail
      go_ret
      exact ⟨rfl, O3.out.below⟩
theorem totalRuns_own : ownKnob Try.prog.godebug = none := by kernel_rfl
theorem totalRuns_laid : laidOutB Try.prog = true := by kernel_rfl
theorem totalRuns_types : ∀ t ∈ ([22, 22] : List TypeId), Try.prog.readableRec t = true ∧ t < Try.prog.types.size := by
  simp only [List.mem_cons, List.not_mem_nil, or_false, forall_eq_or_imp, forall_eq]
  exact ⟨⟨by kernel_rfl, of_decide_eq_true (by kernel_rfl)⟩, ⟨by kernel_rfl, of_decide_eq_true (by kernel_rfl)⟩⟩
set_option maxRecDepth 100000 in
theorem totalRuns_lifted (os : Os) (started : os.Started) (H : Type) (enc : TypeId × Value → H) :
    ReturnsInHanded {} Try.checked os 13 .any (Rows.totalRunsSpec.pre6 enc Try.prog Try.f13 Rows.totalRunsRow.domain false) (Rows.totalRunsSpec.post enc Try.prog Try.f13 false true false false) := by
  refine returnsInHanded_of_change_sized (C := Try.checked) totalRuns_own started (by kernel_rfl) Try.func13
    (ChangeSpec.witness6 (enc := enc) (C := Try.checked) false ⟨#[], #[.slice none 0 0, .slice none 0 0], []⟩ 8 (by kernel_rfl) (by kernel_rfl) (by kernel_rfl) (by kernel_rfl)) ?_
  intro W base args ds gs before hval0 hW hcnd hsz hholds
  have hval : ∀ (j : Nat) t v, Try.f13.params[j]? = some t → args[j]? = some v → Value.okWide Try.prog W .any base t v := hval0
  have hW' := hW
  obtain ⟨p, q, hA0, hV, rfl, hfz, hnd⟩ := hW
  have hA : DataW.TrodAll enc Try.prog W 0 (fun _ => true) true Try.f13.params.toList args.toList ds p := hA0
  obtain ⟨rfl, rfl⟩ := trodVars_none hV
  have hpost : ∀ W', Below W.heap.size W W' → Rows.totalRunsSpec.post enc Try.prog Try.f13 false true false false W args (.bool true) W' := fun W' hb => by
    have hlen : ds.length = 2 := by have hh := hA; rw [Try.params13] at hh; obtain ⟨_, _, d0, ds0, _, _, _, rfl, _, _, hh⟩ := trodAll_cons hh; obtain ⟨_, _, d1, ds1, _, _, _, rfl, _, _, hh⟩ := trodAll_cons hh; obtain ⟨_, rfl, _⟩ := trodAll_nil hh; simp
    obtain ⟨e0, e1, rfl⟩ : ∃ e0 e1, ds = [e0, e1] := by match ds, hlen with | [e0, e1], _ => exact ⟨e0, e1, rfl⟩
    exact law_post totalRuns_laid rfl hW' (by rw [Try.params13]; exact totalRuns_types) (tb := 4) (by kernel_rfl) Try.underlying4 rfl rfl rfl hb
  rw [Try.params13] at hA hval
  obtain ⟨v0, vs0, d0, ds0, p0, q0, hargs, rfl, rfl, h0, r0⟩ := trodAll_cons hA
  obtain ⟨v1, vs1, d1, ds1, p1, q1, rfl, rfl, rfl, h1, r1⟩ := trodAll_cons r0
  obtain ⟨rfl, rfl, rfl⟩ := trodAll_nil r1
  obtain rfl : args = #[v0, v1] := by cases args; simp_all
  obtain ⟨A, n, c, y, rfl, hsd, hAt, hy⟩ := open_floats Try.underlying22 Try.underlying24 (by kernel_rfl) (hval 0 22 v0 rfl rfl) h0
  have hnc := len_cap Try.underlying22 h0
  obtain ⟨M, m, d, g, rfl, hsd1, hMt, hg⟩ := open_floats Try.underlying22 Try.underlying24 (by kernel_rfl) (hval 1 22 v1 rfl rfl) h1
  have hmd := len_cap Try.underlying22 h1
  have hlen := sized_list (j := 0) (t := 22) hsz (by kernel_rfl) rfl Try.underlying22 hsd
  rw [show Try.checked.prog.bytesOf 24 = 8 by kernel_rfl] at hlen
  have hlen1 := sized_list (j := 1) (t := 22) hsz (by kernel_rfl) rfl Try.underlying22 hsd1
  rw [show Try.checked.prog.bytesOf 24 = 8 by kernel_rfl] at hlen1
  have := reachBytes_lt
  refine (totalRuns_walk n c m d A M y g W (by omega) (by omega) hAt hMt (fun j hj => f64_wf (hy j hj)) (fun j hj => f64_wf (hg j hj))).mono fun e W' ⟨he, hg⟩ => ?_
  subst he
  exact ⟨_, rfl, hpost _ hg⟩

theorem totalRuns_holds : Rows.TotalRunsSaid :=
  OpenClaim.holds_of_wide 13 Try.f13 rfl rfl rfl rfl rfl rfl rfl ⟨rfl, rfl, rfl, rfl, rfl⟩ rfl rfl rfl rfl rfl (by kernel_rfl) Try.func13 (by kernel_rfl)
    (of_decide_eq_true (by kernel_rfl)) (by unfold Func.isWrapper; first | (rw [if_pos (by decide +kernel)]; kernel_rfl) | (rw [if_neg (by decide +kernel)]; exact ⟨rfl, rfl⟩))
    (fun os started H enc _ => totalRuns_lifted os started H enc)
#print axioms totalRuns_holds
end Go.Proofs.Ytjakjnmfndfehaa
