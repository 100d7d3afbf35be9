/- The last step to a place of the table, and where it comes from: walks. Conditions: the place within the names, the names and the rows are not too many. -/
import Derived.Test.YtkhdemaanakbeaaEa
import Derived.Deep.DeepCutAuto
import Derived.Deep.CutBlock
namespace Go.Proofs.Ytkhdemaanakbeaa
open Go.RowKit Go.Pst
set_option maxRecDepth 20000
set_option linter.unusedSimpArgs false
set_option linter.unusedVariables false
/-- Where a table lies: what Grid says of its rows. -/
def TabAt (w : World) (B : Nat) (D : Option Addr) (n m : Nat) (T : Nat → Nat → Nat) : Prop :=
  ∃ (d : Nat) (R : Nat → Nat), D = some ⟨d, 0, none⟩ ∧ d < B ∧ ∀ i, i ≤ n → w.cell? ⟨d, i, none⟩ = some (.slice (some ⟨R i, 0, none⟩) (m + 1) (m + 1)) ∧ R i < B ∧ ∀ j, j ≤ m → ∃ x, w.cell? ⟨R i, j, none⟩ = some (.float .f64 x) ∧ cn x = T i j
theorem TabAt.below {w w' : World} {B B' : Nat} {D : Option Addr} {n m : Nat} {T : Nat → Nat → Nat} (h : TabAt w B D n m T) (hb : Below B' w w') (hB : B ≤ B') : TabAt w' B D n m T := by
  obtain ⟨d, R, rfl, h1, h2⟩ := h
  refine ⟨d, R, rfl, h1, fun i hi => ?_⟩
  obtain ⟨e1, e2, e3⟩ := h2 i hi
  refine ⟨(hb.cell (show d < B' by omega)).trans e1, e2, fun j hj => ?_⟩
  obtain ⟨x, f1, f2⟩ := e3 j hj
  exact ⟨x, (hb.cell (show R i < B' by omega)).trans f1, f2⟩
theorem TabAt.more {w : World} {B B' : Nat} {D : Option Addr} {n m : Nat} {T : Nat → Nat → Nat} (h : TabAt w B D n m T) (hB : B ≤ B') : TabAt w B' D n m T := by
  obtain ⟨d, R, rfl, h1, h2⟩ := h
  exact ⟨d, R, rfl, by omega, fun i hi => ⟨(h2 i hi).1, by have := (h2 i hi).2.1; omega, (h2 i hi).2.2⟩⟩
theorem Grid.tab {w : World} {H B n m : Nat} {R : Nat → Nat} {T : Nat → Nat → Nat} (g : Grid w H B (n + 1) (m + 1) (n + 1) R T) : TabAt w w.heap.size (some ⟨B, 0, none⟩) n m T :=
  ⟨B, R, rfl, g.dlt, fun i hi => ⟨g.done i (by omega), (g.rlt i (by omega)).2, fun j hj => g.cell i j (by omega) (by omega)⟩⟩
/-- The closure of back: is a number that of the place? -/
theorem is_any (x h9 h10 h11 i j n m c : Nat) (D : Option Addr) (T : Nat → Nat → Nat) (w : World) (hn : n ≤ 1048576) (hm : m ≤ 1048576) (hi : i ≤ n) (hj : j ≤ m) (hD : TabAt w w.heap.size D n m T)
    (h1 : w.cell? ⟨h9, 0, none⟩ = some (.slice D (n + 1) c)) (h2 : w.cell? ⟨h10, 0, none⟩ = some (.int .i64 (i : Int))) (h3 : w.cell? ⟨h11, 0, none⟩ = some (.int .i64 (j : Int))) (hl : h9 < w.heap.size ∧ h10 < w.heap.size ∧ h11 < w.heap.size) :
    Calls Try.prog 68 #[.float .f64 x, .pointer (some ⟨h9, 0, none⟩), .pointer (some ⟨h10, 0, none⟩), .pointer (some ⟨h11, 0, none⟩)] w fun en w' => en = .returned (.bool (cn x == T i j)) ∧ Below w.heap.size w w' := by
  obtain ⟨d, R, rfl, hd, hR⟩ := hD
  obtain ⟨e1, e2, e3⟩ := hR i hi
  obtain ⟨y, q, hy⟩ := e3 j hj
  obtain ⟨l9, l10, l11⟩ := hl
  have HS := Lib.hid fun w => msame_any x y w
  rw [hy] at HS
  have b1 : (i : Int) < (n : Int) + 1 := by omega
  have b2 : (0 : Int) ≤ (i : Int) := by omega
  have b3 : (j : Int) < (m : Int) + 1 := by omega
  have b4 : (0 : Int) ≤ (j : Int) := by omega
  clear hR e3 hi hj
  generalize T i j = t at *
  generalize R i = ri at *
  go_enter Try.func68, Try.ntmps68
  go_wp2_with fail
  refine Reg.wp_region_rd (by kernel_rfl) (by kernel_rfl) (fun _ => ?_)
  repeat (refine Reg.rd_op rfl ?_; apply Exists.intro; apply And.intro; (intro w' hb; have hc := Reg.rd_cells hb; clear hb; go_simp; (try go_bits); first | done | (with_reducible exact rfl)); (intro _ a' ha'; simp only [Act.put, List.setIfInBounds_toArray, List.set_cons_zero, List.set_cons_succ] at ha'; subst ha'))
  refine Reg.rd_op rfl ?_; apply Exists.intro; apply And.intro
  · intro w' hb; have hsz := Reg.rd_size hb; clear hb; go_simp; (try go_bits); exact (HS.out w').mono fun en w'' ⟨e1, e2⟩ => ⟨e1, by rw [← e2]; exact Below.refl _ _⟩
  intro _ a' ha'; simp only [Act.put, List.setIfInBounds_toArray, List.set_cons_zero, List.set_cons_succ] at ha'; subst ha'
  repeat (refine Reg.rd_op rfl ?_; apply Exists.intro; apply And.intro; (intro w' hb; have hc := Reg.rd_cells hb; clear hb; go_simp; (try go_bits); first | done | (with_reducible exact rfl)); (intro _ a' ha'; simp only [Act.put, List.setIfInBounds_toArray, List.set_cons_zero, List.set_cons_succ] at ha'; subst ha'))
  refine Reg.rd_end (fun wz hb => ?_)
  have HB := Lib.hid hb
  clear hb
  go_wp2_with fail
  go_ret
  exact ⟨rfl, HB.out⟩
theorem wp_world0 {P : Program} {c : Code} {Q : Exit → Act → World → Prop} {a : Act} {W : World} (R : World → Prop) (h1 : R W) (h2 : ∀ W', R W' → c.wp P Q a W') : c.wp P Q a W := h2 W h1
abbrev ownB (h cI cO cX cT np cp n cc i j : Nat) (Ap D : Option Addr) : List (Nat × Array Value × TypeId) :=
  [(h + 1 + 1 + 1 + 1, #[.int .i64 0, .int .i32 0, .int .i32 0], 79), (h + 1 + 1 + 1, #[.int .i64 (j : Int)], 3), (h + 1 + 1, #[.int .i64 (i : Int)], 3), (h + 1, #[.slice D (n + 1) cc], 47), (h, #[.float .f64 cI, .float .f64 cO, .float .f64 cX, .float .f64 cT, .slice Ap np cp], 26)]
theorem results_cell3 {P : Program} {fn : Func} {p t2 t3 : Tmp} {ty : TypeId} (h : fn.results = #[.cell p ty, .tmp t2, .tmp t3]) (tmps : Array Value) (w : World) (g : Nat) (t : TypeId) (cs : Array Value) (fr : Nat × Nat) (d : TypeDesc)
    (hp : tmps.getD p undef = .pointer (some ⟨g, 0, none⟩)) (hg : w.heap[g]? = some (.cells cs t fr))
    (hu : P.underlying ty = some d) (hd : (match d with | .struct _ | .array _ _ => true | _ => false) = true) (hi : (P.info? ty).map (·.size) = some cs.size) :
    (results fn tmps).run P w = .ok (.tuple #[.agg cs, tmps.getD t2 undef, tmps.getD t3 undef]) w := by
  have hp' : tmps[p]?.getD undef = .pointer (some ⟨g, 0, none⟩) := by simpa using hp
  simp [results, h, hp', asAddr, run_loadVar_row w g t ty cs fr d hg hu hd hi]
theorem infoEd (cs : Array Value) (h : cs.size = 3) : (Try.prog.info? 79).map (·.size) = some cs.size := by rw [h]; kernel_rfl
attribute [local go_sem] run_fadd
set_option maxHeartbeats 2000000 in
theorem back_any (cI cO cX cT n m c d np cp cc i j : Nat) (A B Ap D : Option Addr) (p : Nat → Int × Int × Nat) (fa fb : Nat → Int) (T : Nat → Nat → Nat) (w : World) (hA : NameAt w w.heap.size A n fa) (hB : NameAt w w.heap.size B m fb)
    (hp : PairsAt w w.heap.size Ap np p) (hnp : np ≤ 4096) (hr : Rising np p) (hn : n ≤ 1048576) (hm : m ≤ 1048576) (hD : TabAt w w.heap.size D n m T) (hi : i ≤ n) (hj : j ≤ m) (hij : 0 < i ∨ 0 < j) :
    Calls Try.prog 55 #[.agg #[.float .f64 cI, .float .f64 cO, .float .f64 cX, .float .f64 cT, .slice Ap np cp], .slice A n c, .slice B m d, .slice D (n + 1) cc, .int .i64 (i : Int), .int .i64 (j : Int)] w
      fun en w' => en = .returned (.tuple #[.agg #[.int .i64 (edK fa fb (bkK T cO cX cT p np fa fb i j) i j).1, .int .i32 (edK fa fb (bkK T cO cX cT p np fa fb i j) i j).2.1, .int .i32 (edK fa fb (bkK T cO cX cT p np fa fb i j) i j).2.2],
        .int .i64 ((prK (bkK T cO cX cT p np fa fb i j) i j).1 : Nat), .int .i64 ((prK (bkK T cO cX cT p np fa fb i j) i j).2 : Nat)]) ∧ Below w.heap.size w w' := by
  have HA := Lib.hid hA; have HB := Lib.hid hB; have HP := Lib.hid hp; have HR := Lib.hid hr; have HD := Lib.hid hD
  clear hA hB hp hr hD
  go_enter Try.func55, Try.ntmps55
  go_upto_region 2 with fail
  refine wp_world0 (fun W' => Reg.Own w W' (ownB w.heap.size cI cO cX cT np cp n cc i j Ap D)) ((((((Reg.Own.nil w).alloc rfl _ _).alloc (by simp) _ _).alloc (by simp) _ _).alloc (by simp) _ _).alloc (by simp) _ _) ?_
  intro w1 hO
  have O := hO
  obtain ⟨c4, f4, z4, y4, ⟨n43, n42, n41, n40, -⟩, c3, f3, z3, y3, ⟨n32, n31, n30, -⟩, c2, f2, z2, y2, ⟨n21, n20, -⟩, c1, f1, z1, y1, ⟨n10, -⟩, c0, f0, z0, y0, -, zz⟩ := O.rules
  have HO := Lib.hid O; clear O
  clear hO
  obtain ⟨bA, hbA⟩ : ∃ b, b = bkA T cX p np fa fb i j := ⟨_, rfl⟩
  have HBA := Lib.hid hbA
  clear hbA
  go_cut [18] (fun s wx => s = .bool bA ∧ Reg.Own w wx (ownB w.heap.size cI cO cX cT np cp n cc i j Ap D))
  case first =>
    by_cases hi0 : 0 < i
    · have gi : (i : Int) > 0 := by omega
      have gi' : 0 < (i : Int) := by omega
      by_cases hj0 : 0 < j
      · have gj : (j : Int) > 0 := by omega
        have gj' : 0 < (j : Int) := by omega
        have BB := Lib.hid HO.out.below
        have HI := Lib.hid hi; have HJ := Lib.hid hj
        obtain ⟨i1, hi1⟩ : ∃ k, k = i - 1 := ⟨_, rfl⟩
        obtain ⟨j1, hj1⟩ : ∃ k, k = j - 1 := ⟨_, rfl⟩
        have ei1 : (i : Int) - 1 = (i1 : Int) := by omega
        have ej1 : (j : Int) - 1 = (j1 : Int) := by omega
        have HIS := Lib.hid fun (x : Nat) (w' : World) (hb : Below w1.heap.size w1 w') =>
          is_any x (w.heap.size + 1) (w.heap.size + 1 + 1) (w.heap.size + 1 + 1 + 1) i j n m cc D T w' hn hm hi hj ((HD.out.below (BB.out.trans (hb.mono BB.out.size)) (Nat.le_refl _)).more (Nat.le_trans BB.out.size hb.size))
            ((hb.cell (p := ⟨w.heap.size + 1, 0, none⟩) z1).trans (c1 0)) ((hb.cell (p := ⟨w.heap.size + 1 + 1, 0, none⟩) z2).trans (c2 0)) ((hb.cell (p := ⟨w.heap.size + 1 + 1 + 1, 0, none⟩) z3).trans (c3 0)) (by have := hb.size; omega)
        obtain ⟨ga, oa, rfl, hga, hca⟩ := (HA.out.below BB.out (Nat.le_refl _)) (by omega)
        obtain ⟨gb, ob, rfl, hgb, hcb⟩ := (HB.out.below BB.out (Nat.le_refl _)) (by omega)
        have qa := hca i1 (by omega)
        have qb := hcb j1 (by omega)
        obtain ⟨dd, R, rfl, hdd, hR⟩ := HD.out.below BB.out (Nat.le_refl _)
        obtain ⟨r1, r2, r3⟩ := hR i1 (by omega)
        obtain ⟨x, rx, hx⟩ := r3 j1 (by omega)
        have k1 : (i1 : Int) < (n : Int) ∧ (j1 : Int) < (m : Int) ∧ (i1 : Int) < (n : Int) + 1 ∧ (j1 : Int) < (m : Int) + 1 ∧ (0 : Int) ≤ (i1 : Int) ∧ (0 : Int) ≤ (j1 : Int) := by omega
        obtain ⟨k2, k3, k4, k5, k6, k7⟩ := k1
        obtain ⟨V4, eV4⟩ : ∃ V, V = othV p np cX (fa i1) (fb j1) := ⟨_, rfl⟩
        obtain ⟨V5, eV5⟩ : ∃ V, V = addN (T i1 j1) V4 := ⟨_, rfl⟩
        have hba : bA = (V5 == T i j) := by
          rw [HBA.out, eV5, eV4, hi1, hj1]; unfold bkA; rw [decide_eq_true hi0, decide_eq_true hj0]; simp
        have cV5 : cn V5 = V5 := by rw [eV5]; exact cn_addN _ _
        have HOTH := Lib.hid fun (w' : World) (hb' : Below w1.heap.size w1 w') =>
          (other_any cI cO cX cT Ap np cp p (fa i1) (fb j1) w' hnp ((HP.out.below (BB.out.trans (hb'.mono BB.out.size)) (Nat.le_refl _)).more (Nat.le_trans BB.out.size hb'.size)) HR.out)
        rw [← eV4] at HOTH
        have X1 := Lib.hid hx; have E5 := Lib.hid eV5; have C5 := Lib.hid cV5; have HBV := Lib.hid hba
        have qhga : ga < w1.heap.size := by omega
        have qhgb : gb < w1.heap.size := by omega
        have qhdd : dd < w1.heap.size := by omega
        have qr2 : R i1 < w1.heap.size := by omega
        clear hca hcb hR r3 hx eV4 eV5 cV5 hba hi1 hj1 hi hj hij
        refine Reg.wp_region_rn [47, 48] (by kernel_rfl) (by kernel_rfl) (fun _ => ?_)
        repeat (refine Reg.op0e Reg.rn_class (fun _ _ => trivial) rfl rfl rfl ?_; apply Exists.intro; apply And.intro; (intro w' hb; have hc := Reg.rd_cells hb; clear hb; go_simp; (try go_bits); first | done | (with_reducible exact rfl)); (intro a' ha'; simp only [Act.put, List.setIfInBounds_toArray, List.set_cons_zero, List.set_cons_succ] at ha'; subst ha'))
        refine Reg.op0 Reg.rn_class (fun _ _ => trivial) rfl rfl rfl ⟨.float .f64 (V4), ?_, ?_⟩
        · intro w' hb; have hbw := Lib.hid hb; have hc := Reg.rd_cells hb; clear hb; go_simp; exact ⟨rfl, (HOTH.out _ hbw.out).mono fun en w'' ⟨u, e1, e2, e3⟩ => ⟨_, e1, .inr ⟨rfl, veq_of_cn e2⟩, e3⟩⟩
        intro a' ha'; simp only [Act.put, List.setIfInBounds_toArray, List.set_cons_zero, List.set_cons_succ] at ha'; subst ha'
        refine Reg.op1 Reg.rn_class (fun _ _ => trivial) rfl rfl 47 _ rfl rfl ⟨.float .f64 (V5), ?_, ?_⟩
        · intro u1 g1 w' hb; obtain ⟨y1, rfl, f1⟩ := cn_of_veq g1; clear g1; have hc := Reg.rd_cells hb; clear hb; have F1 := Lib.hid f1; clear f1; simp only [Act.put, List.setIfInBounds_toArray, List.set_cons_zero, List.set_cons_succ]; go_simp; have f1 := F1.out; exact ⟨wIf_refl _ _, .inr ⟨rfl, veq_of_cn (by rw [E5.out]; exact cn_addU2 _ _ _ _ _ X1.out f1)⟩⟩
        intro a' ha'; simp only [Act.put, List.setIfInBounds_toArray, List.set_cons_zero, List.set_cons_succ] at ha'; subst ha'
        refine Reg.op1 Reg.rn_class (fun _ _ => trivial) rfl rfl 48 _ rfl rfl ⟨.bool bA, ?_, ?_⟩
        · intro u1 g1 w' hb; obtain ⟨y1, rfl, f1⟩ := cn_of_veq g1; clear g1; have hbw := Lib.hid hb; clear hb; have F1 := Lib.hid f1; clear f1; simp only [Act.put, List.setIfInBounds_toArray, List.set_cons_zero, List.set_cons_succ]; go_simp; have f1 := F1.out; exact ⟨rfl, (HIS.out y1 _ hbw.out).mono fun en w'' ⟨e1, e2⟩ => ⟨_, e1, .inl (by rw [f1, C5.out, HBV.out]), e2⟩⟩
        intro a' ha'; simp only [Act.put, List.setIfInBounds_toArray, List.set_cons_zero, List.set_cons_succ] at ha'; subst ha'
        repeat (refine Reg.op0e Reg.rn_class (fun _ _ => trivial) rfl rfl rfl ?_; apply Exists.intro; apply And.intro; (intro w' hb; have hc := Reg.rd_cells hb; clear hb; go_simp; (try go_bits); first | done | (with_reducible exact rfl)); (intro a' ha'; simp only [Act.put, List.setIfInBounds_toArray, List.set_cons_zero, List.set_cons_succ] at ha'; subst ha'))
        refine Reg.rn_endv [(47, .float .f64 (V4)), (48, .float .f64 (V5))] rfl (fun wz hb => ?_)
        refine ⟨rfl, fun u hu => ?_⟩
        obtain ⟨z47, rfl, k47⟩ := cn_of_veq hu; clear hu
        refine ⟨rfl, fun u hu => ?_⟩
        obtain ⟨z48, rfl, k48⟩ := cn_of_veq hu; clear hu
        simp only [Reg.endv, Act.put, List.setIfInBounds_toArray, List.set_cons_zero, List.set_cons_succ]
        go_wp2_with fail
        go_meet
        case rel => exact ⟨by first | rfl | simp, HO.out.keep hb⟩
      · have gj : ¬ (j : Int) > 0 := by omega
        have gj' : ¬ 0 < (j : Int) := by omega
        have HBV : Hid (bA = false) := Lib.hid (by rw [HBA.out]; unfold bkA; rw [decide_eq_false hj0]; simp)
        refine Reg.wp_region_rd (by kernel_rfl) (by kernel_rfl) (fun _ => ?_)
        repeat (refine Reg.rd_op rfl ?_; apply Exists.intro; apply And.intro; (intro w' hb; have hc := Reg.rd_cells hb; clear hb; go_simp; (try go_bits); first | done | (with_reducible exact rfl)); (intro _ a' ha'; simp only [Act.put, List.setIfInBounds_toArray, List.set_cons_zero, List.set_cons_succ] at ha'; subst ha'))
        repeat (refine Reg.rd_skip rfl ?_; intro a' ha'; simp only [Act.put, List.setIfInBounds_toArray, List.set_cons_zero, List.set_cons_succ] at ha'; subst ha')
        repeat (refine Reg.rd_op rfl ?_; apply Exists.intro; apply And.intro; (intro w' hb; have hc := Reg.rd_cells hb; clear hb; go_simp; (try go_bits); first | done | (with_reducible exact rfl)); (intro _ a' ha'; simp only [Act.put, List.setIfInBounds_toArray, List.set_cons_zero, List.set_cons_succ] at ha'; subst ha'))
        repeat (refine Reg.rd_skip rfl ?_; intro a' ha'; simp only [Act.put, List.setIfInBounds_toArray, List.set_cons_zero, List.set_cons_succ] at ha'; subst ha')
        repeat (refine Reg.rd_op rfl ?_; apply Exists.intro; apply And.intro; (intro w' hb; have hc := Reg.rd_cells hb; clear hb; go_simp; (try go_bits); first | done | (with_reducible exact rfl)); (intro _ a' ha'; simp only [Act.put, List.setIfInBounds_toArray, List.set_cons_zero, List.set_cons_succ] at ha'; subst ha'))
        refine Reg.rd_end (fun wz hb => ?_)
        go_wp2_with fail
        go_meet
        case rel => exact ⟨by rw [HBV.out], HO.out.keep hb⟩
    · have gi : ¬ (i : Int) > 0 := by omega
      have gi' : ¬ 0 < (i : Int) := by omega
      have HBV : Hid (bA = false) := Lib.hid (by rw [HBA.out]; unfold bkA; rw [decide_eq_false hi0]; simp)
      refine Reg.wp_region_rd (by kernel_rfl) (by kernel_rfl) (fun _ => ?_)
      repeat (refine Reg.rd_op rfl ?_; apply Exists.intro; apply And.intro; (intro w' hb; have hc := Reg.rd_cells hb; clear hb; go_simp; (try go_bits); first | done | (with_reducible exact rfl)); (intro _ a' ha'; simp only [Act.put, List.setIfInBounds_toArray, List.set_cons_zero, List.set_cons_succ] at ha'; subst ha'))
      repeat (refine Reg.rd_skip rfl ?_; intro a' ha'; simp only [Act.put, List.setIfInBounds_toArray, List.set_cons_zero, List.set_cons_succ] at ha'; subst ha')
      repeat (refine Reg.rd_op rfl ?_; apply Exists.intro; apply And.intro; (intro w' hb; have hc := Reg.rd_cells hb; clear hb; go_simp; (try go_bits); first | done | (with_reducible exact rfl)); (intro _ a' ha'; simp only [Act.put, List.setIfInBounds_toArray, List.set_cons_zero, List.set_cons_succ] at ha'; subst ha'))
      repeat (refine Reg.rd_skip rfl ?_; intro a' ha'; simp only [Act.put, List.setIfInBounds_toArray, List.set_cons_zero, List.set_cons_succ] at ha'; subst ha')
      repeat (refine Reg.rd_op rfl ?_; apply Exists.intro; apply And.intro; (intro w' hb; have hc := Reg.rd_cells hb; clear hb; go_simp; (try go_bits); first | done | (with_reducible exact rfl)); (intro _ a' ha'; simp only [Act.put, List.setIfInBounds_toArray, List.set_cons_zero, List.set_cons_succ] at ha'; subst ha'))
      refine Reg.rd_end (fun wz hb => ?_)
      go_wp2_with fail
      go_meet
      case rel => exact ⟨by rw [HBV.out], HO.out.keep hb⟩
  case rest =>
    obtain ⟨rfl, hO⟩ := hcut
    have O := hO
    clear HO c4 f4 z4 y4 n43 n42 n41 n40 c3 f3 z3 y3 n32 n31 n30 c2 f2 z2 y2 n21 n20 c1 f1 z1 y1 n10 c0 f0 z0 y0 zz
    obtain ⟨c4, f4, z4, y4, ⟨n43, n42, n41, n40, -⟩, c3, f3, z3, y3, ⟨n32, n31, n30, -⟩, c2, f2, z2, y2, ⟨n21, n20, -⟩, c1, f1, z1, y1, ⟨n10, -⟩, c0, f0, z0, y0, -, zz⟩ := O.rules
    have HO := Lib.hid O; clear O
    clear hO
    have BB := Lib.hid HO.out.below
    have HI := Lib.hid hi; have HJ := Lib.hid hj; have HIJ := Lib.hid hij
    clear hi hj hij
    cases bA
    · have HK := Lib.hid HBA.out.symm
      clear HBA
      go_upto_region 7 with fail
      obtain ⟨bT, hbT⟩ : ∃ b, b = bkT T cT fa fb i j := ⟨_, rfl⟩
      have HBT := Lib.hid hbT
      clear hbT
      go_cut [78] (fun s wx => s = .bool bT ∧ Reg.Own w wx (ownB w.heap.size cI cO cX cT np cp n cc i j Ap D))
      case first =>
        have HTU := Lib.hid fun (w' : World) (hb' : Below wc.heap.size wc w') => turned_any A B n m c d i j fa fb w' ((HA.out.below (BB.out.trans (hb'.mono BB.out.size)) (Nat.le_refl _)).more (Nat.le_trans BB.out.size hb'.size)) ((HB.out.below (BB.out.trans (hb'.mono BB.out.size)) (Nat.le_refl _)).more (Nat.le_trans BB.out.size hb'.size)) HI.out HJ.out hn hm
        cases htn : tnB fa fb i j
        · have HBV : Hid (bT = false) := Lib.hid (by rw [HBT.out]; unfold bkT; rw [htn]; rfl)
          rw [htn] at HTU
          clear htn
          refine Reg.wp_region_rd (by kernel_rfl) (by kernel_rfl) (fun _ => ?_)
          repeat (refine Reg.rd_op rfl ?_; apply Exists.intro; apply And.intro; (intro w' hb; have hc := Reg.rd_cells hb; clear hb; go_simp; (try go_bits); first | done | (with_reducible exact rfl)); (intro _ a' ha'; simp only [Act.put, List.setIfInBounds_toArray, List.set_cons_zero, List.set_cons_succ] at ha'; subst ha'))
          refine Reg.rd_op rfl ?_; apply Exists.intro; apply And.intro
          · intro w' hb; have hbw := Lib.hid hb; clear hb; go_simp; (try go_bits); exact (HTU.out _ hbw.out)
          intro _ a' ha'; simp only [Act.put, List.setIfInBounds_toArray, List.set_cons_zero, List.set_cons_succ] at ha'; subst ha'
          repeat (refine Reg.rd_op rfl ?_; apply Exists.intro; apply And.intro; (intro w' hb; have hc := Reg.rd_cells hb; clear hb; go_simp; (try go_bits); first | done | (with_reducible exact rfl)); (intro _ a' ha'; simp only [Act.put, List.setIfInBounds_toArray, List.set_cons_zero, List.set_cons_succ] at ha'; subst ha'))
          repeat (refine Reg.rd_skip rfl ?_; intro a' ha'; simp only [Act.put, List.setIfInBounds_toArray, List.set_cons_zero, List.set_cons_succ] at ha'; subst ha')
          repeat (refine Reg.rd_op rfl ?_; apply Exists.intro; apply And.intro; (intro w' hb; have hc := Reg.rd_cells hb; clear hb; go_simp; (try go_bits); first | done | (with_reducible exact rfl)); (intro _ a' ha'; simp only [Act.put, List.setIfInBounds_toArray, List.set_cons_zero, List.set_cons_succ] at ha'; subst ha'))
          refine Reg.rd_end (fun wz hb => ?_)
          go_wp2_with fail
          go_meet
          case rel => exact ⟨by rw [HBV.out], HO.out.keep hb⟩
        · have hi := HI.out; have hj := HJ.out
          have h2 : 1 < i ∧ 1 < j := by unfold tnB at htn; simp only [Bool.and_eq_true, decide_eq_true_eq] at htn; omega
          obtain ⟨i1, hi1⟩ : ∃ k, k = i - 2 := ⟨_, rfl⟩
          obtain ⟨j1, hj1⟩ : ∃ k, k = j - 2 := ⟨_, rfl⟩
          have ei1 : (i : Int) - 2 = (i1 : Int) := by omega
          have ej1 : (j : Int) - 2 = (j1 : Int) := by omega
          have HIS := Lib.hid fun (x : Nat) (w' : World) (hb : Below wc.heap.size wc w') =>
            is_any x (w.heap.size + 1) (w.heap.size + 1 + 1) (w.heap.size + 1 + 1 + 1) i j n m cc D T w' hn hm HI.out HJ.out ((HD.out.below (BB.out.trans (hb.mono BB.out.size)) (Nat.le_refl _)).more (Nat.le_trans BB.out.size hb.size))
              ((hb.cell (p := ⟨w.heap.size + 1, 0, none⟩) z1).trans (c1 0)) ((hb.cell (p := ⟨w.heap.size + 1 + 1, 0, none⟩) z2).trans (c2 0)) ((hb.cell (p := ⟨w.heap.size + 1 + 1 + 1, 0, none⟩) z3).trans (c3 0)) (by have := hb.size; omega)
          obtain ⟨dd, R, rfl, hdd, hR⟩ := HD.out.below BB.out (Nat.le_refl _)
          obtain ⟨r1, r2, r3⟩ := hR i1 (by omega)
          obtain ⟨x, rx, hx⟩ := r3 j1 (by omega)
          have k1 : (i1 : Int) < (n : Int) + 1 ∧ (j1 : Int) < (m : Int) + 1 ∧ (0 : Int) ≤ (i1 : Int) ∧ (0 : Int) ≤ (j1 : Int) := by omega
          obtain ⟨k4, k5, k6, k7⟩ := k1
          obtain ⟨V5, eV5⟩ : ∃ V, V = addN (T i1 j1) cT := ⟨_, rfl⟩
          have hba : bT = (V5 == T i j) := by
            rw [HBT.out, eV5, hi1, hj1]; unfold bkT; rw [htn]; simp
          have cV5 : cn V5 = V5 := by rw [eV5]; exact cn_addN _ _
          rw [htn] at HTU
          have X1 := Lib.hid hx; have E5 := Lib.hid eV5; have C5 := Lib.hid cV5; have HBV := Lib.hid hba
          have qhdd : dd < wc.heap.size := by omega
          have qr2 : R i1 < wc.heap.size := by omega
          clear hR r3 hx eV5 cV5 hba hi1 hj1 hi hj htn h2
          refine Reg.wp_region_rn [97] (by kernel_rfl) (by kernel_rfl) (fun _ => ?_)
          repeat (refine Reg.op0e Reg.rn_class (fun _ _ => trivial) rfl rfl rfl ?_; apply Exists.intro; apply And.intro; (intro w' hb; have hc := Reg.rd_cells hb; clear hb; go_simp; (try go_bits); first | done | (with_reducible exact rfl)); (intro a' ha'; simp only [Act.put, List.setIfInBounds_toArray, List.set_cons_zero, List.set_cons_succ] at ha'; subst ha'))
          refine Reg.op0 Reg.rn_class (fun _ _ => trivial) rfl rfl rfl ⟨.bool true, ?_, ?_⟩
          · intro w' hb; have hbw := Lib.hid hb; have hc := Reg.rd_cells hb; clear hb; go_simp; exact ⟨rfl, (HTU.out _ hbw.out).mono fun en w'' ⟨e1, e2⟩ => ⟨_, e1, .inl rfl, e2⟩⟩
          intro a' ha'; simp only [Act.put, List.setIfInBounds_toArray, List.set_cons_zero, List.set_cons_succ] at ha'; subst ha'
          repeat (refine Reg.op0e Reg.rn_class (fun _ _ => trivial) rfl rfl rfl ?_; apply Exists.intro; apply And.intro; (intro w' hb; have hc := Reg.rd_cells hb; clear hb; go_simp; (try go_bits); first | done | (with_reducible exact rfl)); (intro a' ha'; simp only [Act.put, List.setIfInBounds_toArray, List.set_cons_zero, List.set_cons_succ] at ha'; subst ha'))
          refine Reg.op0 Reg.rn_class (fun _ _ => trivial) rfl rfl rfl ⟨.float .f64 (V5), ?_, ?_⟩
          · intro w' hb; have hc := Reg.rd_cells hb; clear hb; go_simp; exact ⟨wIf_refl _ _, .inr ⟨rfl, veq_of_cn (by rw [E5.out]; exact cn_addU _ _ _ _ X1.out)⟩⟩
          intro a' ha'; simp only [Act.put, List.setIfInBounds_toArray, List.set_cons_zero, List.set_cons_succ] at ha'; subst ha'
          refine Reg.op1 Reg.rn_class (fun _ _ => trivial) rfl rfl 97 _ rfl rfl ⟨.bool bT, ?_, ?_⟩
          · intro u1 g1 w' hb; obtain ⟨y1, rfl, f1⟩ := cn_of_veq g1; clear g1; have hbw := Lib.hid hb; clear hb; have F1 := Lib.hid f1; clear f1; simp only [Act.put, List.setIfInBounds_toArray, List.set_cons_zero, List.set_cons_succ]; go_simp; have f1 := F1.out; exact ⟨rfl, (HIS.out y1 _ hbw.out).mono fun en w'' ⟨e1, e2⟩ => ⟨_, e1, .inl (by rw [f1, C5.out, HBV.out]), e2⟩⟩
          intro a' ha'; simp only [Act.put, List.setIfInBounds_toArray, List.set_cons_zero, List.set_cons_succ] at ha'; subst ha'
          repeat (refine Reg.op0e Reg.rn_class (fun _ _ => trivial) rfl rfl rfl ?_; apply Exists.intro; apply And.intro; (intro w' hb; have hc := Reg.rd_cells hb; clear hb; go_simp; (try go_bits); first | done | (with_reducible exact rfl)); (intro a' ha'; simp only [Act.put, List.setIfInBounds_toArray, List.set_cons_zero, List.set_cons_succ] at ha'; subst ha'))
          refine Reg.rn_endv [(97, .float .f64 (V5))] rfl (fun wz hb => ?_)
          refine ⟨rfl, fun u hu => ?_⟩
          obtain ⟨z97, rfl, k97⟩ := cn_of_veq hu; clear hu
          simp only [Reg.endv, Act.put, List.setIfInBounds_toArray, List.set_cons_zero, List.set_cons_succ]
          go_wp2_with fail
          go_meet
          case rel => exact ⟨by first | rfl | simp, HO.out.keep hb⟩
      case rest =>
        obtain ⟨rfl, hO⟩ := hcut
        have O := hO
        clear HO c4 f4 z4 y4 n43 n42 n41 n40 c3 f3 z3 y3 n32 n31 n30 c2 f2 z2 y2 n21 n20 c1 f1 z1 y1 n10 c0 f0 z0 y0 zz
        obtain ⟨c4, f4, z4, y4, ⟨n43, n42, n41, n40, -⟩, c3, f3, z3, y3, ⟨n32, n31, n30, -⟩, c2, f2, z2, y2, ⟨n21, n20, -⟩, c1, f1, z1, y1, ⟨n10, -⟩, c0, f0, z0, y0, -, zz⟩ := O.rules
        have HO := Lib.hid O; clear O
        clear hO BB
        have BB := Lib.hid HO.out.below
        cases bT
        · have HKT := Lib.hid HBT.out.symm
          clear HBT
          go_upto_region 9 with fail
          obtain ⟨bO, hbO⟩ : ∃ b, b = bkO T cO i j := ⟨_, rfl⟩
          have HBO := Lib.hid hbO
          clear hbO
          have hi := HI.out; have hj := HJ.out; have hij := HIJ.out
          go_cut [115] (fun s wx => s = .bool bO ∧ Reg.Own w wx (ownB w.heap.size cI cO cX cT np cp n cc i j Ap D))
          case first =>
            by_cases hj0 : j = 0
            · have gj : (j : Int) = 0 := by omega
              have gj' : ((j : Int) == 0) = true := by simp [hj0]
              have HBV : Hid (bO = true) := Lib.hid (by rw [HBO.out]; unfold bkO; rw [decide_eq_true hj0]; rfl)
              clear hi hj hij hj0
              refine Reg.wp_region_rd (by kernel_rfl) (by kernel_rfl) (fun _ => ?_)
              repeat (refine Reg.rd_op rfl ?_; apply Exists.intro; apply And.intro; (intro w' hb; have hc := Reg.rd_cells hb; clear hb; go_simp; (try go_bits); first | done | (with_reducible exact rfl)); (intro _ a' ha'; simp only [Act.put, List.setIfInBounds_toArray, List.set_cons_zero, List.set_cons_succ] at ha'; subst ha'))
              repeat (refine Reg.rd_skip rfl ?_; intro a' ha'; simp only [Act.put, List.setIfInBounds_toArray, List.set_cons_zero, List.set_cons_succ] at ha'; subst ha')
              repeat (refine Reg.rd_op rfl ?_; apply Exists.intro; apply And.intro; (intro w' hb; have hc := Reg.rd_cells hb; clear hb; go_simp; (try go_bits); first | done | (with_reducible exact rfl)); (intro _ a' ha'; simp only [Act.put, List.setIfInBounds_toArray, List.set_cons_zero, List.set_cons_succ] at ha'; subst ha'))
              refine Reg.rd_end (fun wz hb => ?_)
              go_wp2_with fail
              go_meet
              case rel => exact ⟨by rw [HBV.out], HO.out.keep hb⟩
            · have gj : ¬ (j : Int) = 0 := by omega
              have gj' : ((j : Int) == 0) = false := by simp [hj0]
              by_cases hi0 : 0 < i
              · have gi : (i : Int) > 0 := by omega
                have gi' : 0 < (i : Int) := by omega
                obtain ⟨i1, hi1⟩ : ∃ k, k = i - 1 := ⟨_, rfl⟩
                have ei1 : (i : Int) - 1 = (i1 : Int) := by omega
                have HIS := Lib.hid fun (x : Nat) (w' : World) (hb : Below wc.heap.size wc w') =>
                  is_any x (w.heap.size + 1) (w.heap.size + 1 + 1) (w.heap.size + 1 + 1 + 1) i j n m cc D T w' hn hm HI.out HJ.out ((HD.out.below (BB.out.trans (hb.mono BB.out.size)) (Nat.le_refl _)).more (Nat.le_trans BB.out.size hb.size))
                    ((hb.cell (p := ⟨w.heap.size + 1, 0, none⟩) z1).trans (c1 0)) ((hb.cell (p := ⟨w.heap.size + 1 + 1, 0, none⟩) z2).trans (c2 0)) ((hb.cell (p := ⟨w.heap.size + 1 + 1 + 1, 0, none⟩) z3).trans (c3 0)) (by have := hb.size; omega)
                obtain ⟨dd, R, rfl, hdd, hR⟩ := HD.out.below BB.out (Nat.le_refl _)
                obtain ⟨r1, r2, r3⟩ := hR i1 (by omega)
                obtain ⟨x, rx, hx⟩ := r3 j (by omega)
                have k1 : (i1 : Int) < (n : Int) + 1 ∧ (j : Int) < (m : Int) + 1 ∧ (0 : Int) ≤ (i1 : Int) ∧ (0 : Int) ≤ (j : Int) := by omega
                obtain ⟨k4, k5, k6, k7⟩ := k1
                obtain ⟨V5, eV5⟩ : ∃ V, V = addN (T i1 j) cO := ⟨_, rfl⟩
                have hba : bO = (V5 == T i j) := by
                  rw [HBO.out, eV5, hi1]; unfold bkO; rw [decide_eq_false hj0, decide_eq_true hi0]; simp
                have cV5 : cn V5 = V5 := by rw [eV5]; exact cn_addN _ _
                have X1 := Lib.hid hx; have E5 := Lib.hid eV5; have C5 := Lib.hid cV5; have HBV := Lib.hid hba
                have qhdd : dd < wc.heap.size := by omega
                have qr2 : R i1 < wc.heap.size := by omega
                clear hR r3 hx eV5 cV5 hba hi1 hi hj hij hj0
                refine Reg.wp_region_rn [133] (by kernel_rfl) (by kernel_rfl) (fun _ => ?_)
                repeat (refine Reg.op0e Reg.rn_class (fun _ _ => trivial) rfl rfl rfl ?_; apply Exists.intro; apply And.intro; (intro w' hb; have hc := Reg.rd_cells hb; clear hb; go_simp; (try go_bits); first | done | (with_reducible exact rfl)); (intro a' ha'; simp only [Act.put, List.setIfInBounds_toArray, List.set_cons_zero, List.set_cons_succ] at ha'; subst ha'))
                refine Reg.op0 Reg.rn_class (fun _ _ => trivial) rfl rfl rfl ⟨.float .f64 (V5), ?_, ?_⟩
                · intro w' hb; have hc := Reg.rd_cells hb; clear hb; go_simp; exact ⟨wIf_refl _ _, .inr ⟨rfl, veq_of_cn (by rw [E5.out]; exact cn_addU _ _ _ _ X1.out)⟩⟩
                intro a' ha'; simp only [Act.put, List.setIfInBounds_toArray, List.set_cons_zero, List.set_cons_succ] at ha'; subst ha'
                refine Reg.op1 Reg.rn_class (fun _ _ => trivial) rfl rfl 133 _ rfl rfl ⟨.bool bO, ?_, ?_⟩
                · intro u1 g1 w' hb; obtain ⟨y1, rfl, f1⟩ := cn_of_veq g1; clear g1; have hbw := Lib.hid hb; clear hb; have F1 := Lib.hid f1; clear f1; simp only [Act.put, List.setIfInBounds_toArray, List.set_cons_zero, List.set_cons_succ]; go_simp; have f1 := F1.out; exact ⟨rfl, (HIS.out y1 _ hbw.out).mono fun en w'' ⟨e1, e2⟩ => ⟨_, e1, .inl (by rw [f1, C5.out, HBV.out]), e2⟩⟩
                intro a' ha'; simp only [Act.put, List.setIfInBounds_toArray, List.set_cons_zero, List.set_cons_succ] at ha'; subst ha'
                repeat (refine Reg.op0e Reg.rn_class (fun _ _ => trivial) rfl rfl rfl ?_; apply Exists.intro; apply And.intro; (intro w' hb; have hc := Reg.rd_cells hb; clear hb; go_simp; (try go_bits); first | done | (with_reducible exact rfl)); (intro a' ha'; simp only [Act.put, List.setIfInBounds_toArray, List.set_cons_zero, List.set_cons_succ] at ha'; subst ha'))
                refine Reg.rn_endv [(133, .float .f64 (V5))] rfl (fun wz hb => ?_)
                refine ⟨rfl, fun u hu => ?_⟩
                obtain ⟨z133, rfl, k133⟩ := cn_of_veq hu; clear hu
                simp only [Reg.endv, Act.put, List.setIfInBounds_toArray, List.set_cons_zero, List.set_cons_succ]
                go_wp2_with fail
                go_meet
                case rel => exact ⟨by first | rfl | simp, HO.out.keep hb⟩
              · have gi : ¬ (i : Int) > 0 := by omega
                have gi' : ¬ 0 < (i : Int) := by omega
                have HBV : Hid (bO = false) := Lib.hid (by rw [HBO.out]; unfold bkO; rw [decide_eq_false hj0, decide_eq_false hi0]; rfl)
                clear hi hj hij hj0
                refine Reg.wp_region_rd (by kernel_rfl) (by kernel_rfl) (fun _ => ?_)
                repeat (refine Reg.rd_op rfl ?_; apply Exists.intro; apply And.intro; (intro w' hb; have hc := Reg.rd_cells hb; clear hb; go_simp; (try go_bits); first | done | (with_reducible exact rfl)); (intro _ a' ha'; simp only [Act.put, List.setIfInBounds_toArray, List.set_cons_zero, List.set_cons_succ] at ha'; subst ha'))
                repeat (refine Reg.rd_skip rfl ?_; intro a' ha'; simp only [Act.put, List.setIfInBounds_toArray, List.set_cons_zero, List.set_cons_succ] at ha'; subst ha')
                repeat (refine Reg.rd_op rfl ?_; apply Exists.intro; apply And.intro; (intro w' hb; have hc := Reg.rd_cells hb; clear hb; go_simp; (try go_bits); first | done | (with_reducible exact rfl)); (intro _ a' ha'; simp only [Act.put, List.setIfInBounds_toArray, List.set_cons_zero, List.set_cons_succ] at ha'; subst ha'))
                repeat (refine Reg.rd_skip rfl ?_; intro a' ha'; simp only [Act.put, List.setIfInBounds_toArray, List.set_cons_zero, List.set_cons_succ] at ha'; subst ha')
                repeat (refine Reg.rd_op rfl ?_; apply Exists.intro; apply And.intro; (intro w' hb; have hc := Reg.rd_cells hb; clear hb; go_simp; (try go_bits); first | done | (with_reducible exact rfl)); (intro _ a' ha'; simp only [Act.put, List.setIfInBounds_toArray, List.set_cons_zero, List.set_cons_succ] at ha'; subst ha'))
                refine Reg.rd_end (fun wz hb => ?_)
                go_wp2_with fail
                go_meet
                case rel => exact ⟨by rw [HBV.out], HO.out.keep hb⟩
          case rest =>
            obtain ⟨rfl, hO⟩ := hcut
            have O := hO
            clear HO c4 f4 z4 y4 n43 n42 n41 n40 c3 f3 z3 y3 n32 n31 n30 c2 f2 z2 y2 n21 n20 c1 f1 z1 y1 n10 c0 f0 z0 y0 zz
            obtain ⟨c4, f4, z4, y4, ⟨n43, n42, n41, n40, -⟩, c3, f3, z3, y3, ⟨n32, n31, n30, -⟩, c2, f2, z2, y2, ⟨n21, n20, -⟩, c1, f1, z1, y1, ⟨n10, -⟩, c0, f0, z0, y0, -, zz⟩ := O.rules
            have HO := Lib.hid O; clear O
            clear hO BB
            have BB := Lib.hid HO.out.below
            cases bO
            · have HKO := Lib.hid HBO.out.symm
              have hj0 : 0 < j := by have h := HBO.out.symm; unfold bkO at h; rw [Bool.or_eq_false_iff, decide_eq_false_iff_not] at h; omega
              obtain ⟨j1, hj1⟩ : ∃ k, k = j - 1 := ⟨_, rfl⟩
              have ej1 : (j : Int) - 1 = (j1 : Int) := by omega
              obtain ⟨gb, ob, rfl, hgb, hcb⟩ := (HB.out.below BB.out (Nat.le_refl _)) (by omega)
              have qb := hcb j1 (by omega)
              have k1 : (j1 : Int) < (m : Int) ∧ (0 : Int) ≤ (j1 : Int) := by omega
              obtain ⟨k3, k7⟩ := k1
              have qhgb : gb < wc.heap.size := by omega
              have HJ1 := Lib.hid hj1
              clear hcb hj1 hi hj hij hj0 HBO
              go_wp2_with fail
              go_region
              go_wp2_with fail
              have O9 := (((HO.out.set 0 (.int .i64 4)).set 1 (.int .i32 0)).set 2 (.int .i32 (fb j1))).drew
              refine bodyPost_ret (results_cell3 Try.results55 _ _ (w.heap.size + 1 + 1 + 1 + 1) 79 _ (0, 0) _ rfl (O9.blk _ List.mem_cons_self).1 Try.underlying79 rfl (infoEd _ rfl)) rfl ?_
              refine ⟨?_, O9.below⟩
              have hk : bkK T cO cX cT p np fa fb i j = 4 := by unfold bkK; rw [HK.out, HKT.out, HKO.out]; rfl
              rw [hk]
              show Ending.returned (.tuple #[.agg #[.int .i64 4, .int .i32 0, .int .i32 (fb j1)], .int .i64 (i : Int), .int .i64 (j1 : Int)]) = .returned (.tuple #[.agg #[.int .i64 4, .int .i32 0, .int .i32 (fb (j - 1))], .int .i64 (i : Int), .int .i64 ((j - 1 : Nat) : Int)])
              rw [HJ1.out]
            · have HKO := Lib.hid HBO.out.symm
              have hi0 : 0 < i := by have h := HBO.out.symm; unfold bkO at h; rw [Bool.or_eq_true, decide_eq_true_eq, Bool.and_eq_true, decide_eq_true_eq] at h; omega
              obtain ⟨i1, hi1⟩ : ∃ k, k = i - 1 := ⟨_, rfl⟩
              have ei1 : (i : Int) - 1 = (i1 : Int) := by omega
              obtain ⟨ga, oa, rfl, hga, hca⟩ := (HA.out.below BB.out (Nat.le_refl _)) (by omega)
              have qa := hca i1 (by omega)
              have k1 : (i1 : Int) < (n : Int) ∧ (0 : Int) ≤ (i1 : Int) := by omega
              obtain ⟨k3, k7⟩ := k1
              have qhga : ga < wc.heap.size := by omega
              have HI1 := Lib.hid hi1
              clear hca hi1 hi hj hij hi0 HBO
              go_wp2_with fail
              go_region
              go_wp2_with fail
              have O9 := (((HO.out.set 0 (.int .i64 3)).set 1 (.int .i32 (fa i1))).set 2 (.int .i32 0)).drew
              refine bodyPost_ret (results_cell3 Try.results55 _ _ (w.heap.size + 1 + 1 + 1 + 1) 79 _ (0, 0) _ rfl (O9.blk _ List.mem_cons_self).1 Try.underlying79 rfl (infoEd _ rfl)) rfl ?_
              refine ⟨?_, O9.below⟩
              have hk : bkK T cO cX cT p np fa fb i j = 3 := by unfold bkK; rw [HK.out, HKT.out, HKO.out]; rfl
              rw [hk]
              show Ending.returned (.tuple #[.agg #[.int .i64 3, .int .i32 (fa i1), .int .i32 0], .int .i64 (i1 : Int), .int .i64 (j : Int)]) = .returned (.tuple #[.agg #[.int .i64 3, .int .i32 (fa (i - 1)), .int .i32 0], .int .i64 ((i - 1 : Nat) : Int), .int .i64 (j : Int)])
              rw [HI1.out]
        · have HKT := Lib.hid HBT.out.symm
          have hi := HI.out; have hj := HJ.out
          have h2 : 1 < i ∧ 1 < j := by have htn := HBT.out.symm; unfold bkT tnB at htn; simp only [Bool.and_eq_true, decide_eq_true_eq] at htn; omega
          obtain ⟨i1, hi1⟩ : ∃ k, k = i - 2 := ⟨_, rfl⟩
          obtain ⟨j1, hj1⟩ : ∃ k, k = j - 2 := ⟨_, rfl⟩
          obtain ⟨i2, hi2⟩ : ∃ k, k = i - 1 := ⟨_, rfl⟩
          have ei1 : (i : Int) - 2 = (i1 : Int) := by omega
          have ej1 : (j : Int) - 2 = (j1 : Int) := by omega
          have ei2 : (i : Int) - 1 = (i2 : Int) := by omega
          obtain ⟨ga, oa, rfl, hga, hca⟩ := (HA.out.below BB.out (Nat.le_refl _)) (by omega)
          have qa := hca i1 (by omega)
          have qb := hca i2 (by omega)
          have k1 : (i1 : Int) < (n : Int) ∧ (i2 : Int) < (n : Int) ∧ (0 : Int) ≤ (i1 : Int) ∧ (0 : Int) ≤ (i2 : Int) ∧ (j1 : Int) < (m : Int) ∧ (0 : Int) ≤ (j1 : Int) := by omega
          obtain ⟨k2, k3, k6, k7, k8, k9⟩ := k1
          have qhga : ga < wc.heap.size := by omega
          have HI1 := Lib.hid hi1; have HJ1 := Lib.hid hj1; have HI2 := Lib.hid hi2
          clear hca hi1 hj1 hi2 hi hj h2 HBT
          go_wp2_with fail
          go_region
          go_wp2_with fail
          have O9 := (((HO.out.set 0 (.int .i64 5)).set 1 (.int .i32 (fa i1))).set 2 (.int .i32 (fa i2))).drew
          refine bodyPost_ret (results_cell3 Try.results55 _ _ (w.heap.size + 1 + 1 + 1 + 1) 79 _ (0, 0) _ rfl (O9.blk _ List.mem_cons_self).1 Try.underlying79 rfl (infoEd _ rfl)) rfl ?_
          refine ⟨?_, O9.below⟩
          have hk : bkK T cO cX cT p np fa fb i j = 5 := by unfold bkK; rw [HK.out, HKT.out]; rfl
          rw [hk]
          show Ending.returned (.tuple #[.agg #[.int .i64 5, .int .i32 (fa i1), .int .i32 (fa i2)], .int .i64 (i1 : Int), .int .i64 (j1 : Int)]) = .returned (.tuple #[.agg #[.int .i64 5, .int .i32 (fa (i - 2)), .int .i32 (fa (i - 1))], .int .i64 ((i - 2 : Nat) : Int), .int .i64 ((j - 2 : Nat) : Int)])
          rw [HI1.out, HJ1.out, HI2.out]
    · have HK := Lib.hid HBA.out.symm
      have hij2 : 0 < i ∧ 0 < j := by have h := HBA.out.symm; unfold bkA at h; simp only [Bool.and_eq_true, decide_eq_true_eq] at h; exact ⟨h.1.1, h.1.2⟩
      obtain ⟨i1, hi1⟩ : ∃ k, k = i - 1 := ⟨_, rfl⟩
      obtain ⟨j1, hj1⟩ : ∃ k, k = j - 1 := ⟨_, rfl⟩
      have ei1 : (i : Int) - 1 = (i1 : Int) := by omega
      have ej1 : (j : Int) - 1 = (j1 : Int) := by omega
      have hi := HI.out; have hj := HJ.out
      obtain ⟨ga, oa, rfl, hga, hca⟩ := (HA.out.below BB.out (Nat.le_refl _)) (by omega)
      obtain ⟨gb, ob, rfl, hgb, hcb⟩ := (HB.out.below BB.out (Nat.le_refl _)) (by omega)
      have qa := hca i1 (by omega)
      have qb := hcb j1 (by omega)
      have k1 : (i1 : Int) < (n : Int) ∧ (j1 : Int) < (m : Int) ∧ (0 : Int) ≤ (i1 : Int) ∧ (0 : Int) ≤ (j1 : Int) := by omega
      obtain ⟨k2, k3, k6, k7⟩ := k1
      have qhga : ga < wc.heap.size := by omega
      have qhgb : gb < wc.heap.size := by omega
      have HI1 := Lib.hid hi1; have HJ1 := Lib.hid hj1
      clear hca hcb hi1 hj1 hij2 hi hj
      cases hfe : (fa i1 == fb j1)
      · have HF := Lib.hid hfe
        go_wp2_with fail
        refine Reg.wp_region_rd (by kernel_rfl) (by kernel_rfl) (fun _ => ?_)
        repeat (refine Reg.rd_op rfl ?_; apply Exists.intro; apply And.intro; (intro w' hb; have hc := Reg.rd_cells hb; clear hb; go_simp; (try go_bits); first | done | (with_reducible exact rfl)); (intro _ a' ha'; simp only [Act.put, List.setIfInBounds_toArray, List.set_cons_zero, List.set_cons_succ] at ha'; subst ha'))
        refine Reg.rd_end (fun wz hb => ?_)
        have O := HO.out.keep hb
        clear HO c4 f4 z4 y4 n43 n42 n41 n40 c3 f3 z3 y3 n32 n31 n30 c2 f2 z2 y2 n21 n20 c1 f1 z1 y1 n10 c0 f0 z0 y0 zz
        obtain ⟨c4, f4, z4, y4, ⟨n43, n42, n41, n40, -⟩, c3, f3, z3, y3, ⟨n32, n31, n30, -⟩, c2, f2, z2, y2, ⟨n21, n20, -⟩, c1, f1, z1, y1, ⟨n10, -⟩, c0, f0, z0, y0, -, zz⟩ := O.rules
        have HO := Lib.hid O; clear O
        have qa2 := (hb.cell (p := ⟨ga, oa + i1, none⟩) qhga).trans qa
        have qb2 := (hb.cell (p := ⟨gb, ob + j1, none⟩) qhgb).trans qb
        have qhga2 : ga < wz.heap.size := by omega
        have qhgb2 : gb < wz.heap.size := by omega
        clear qa qb hfe
        go_wp2_with fail
        go_region
        go_wp2_with fail
        have O9 := (((HO.out.set 0 (.int .i64 2)).set 1 (.int .i32 (fa i1))).set 2 (.int .i32 (fb j1))).drew
        refine bodyPost_ret (results_cell3 Try.results55 _ _ (w.heap.size + 1 + 1 + 1 + 1) 79 _ (0, 0) _ rfl (O9.blk _ List.mem_cons_self).1 Try.underlying79 rfl (infoEd _ rfl)) rfl ?_
        refine ⟨?_, O9.below⟩
        have hk : bkK T cO cX cT p np fa fb i j = 2 := (by unfold bkK; rw [HK.out, if_pos rfl, if_neg (by rw [← HI1.out, ← HJ1.out]; simpa using HF.out)])
        rw [hk]
        show Ending.returned (.tuple #[.agg #[.int .i64 2, .int .i32 (fa i1), .int .i32 (fb j1)], .int .i64 (i1 : Int), .int .i64 (j1 : Int)]) = .returned (.tuple #[.agg #[.int .i64 2, .int .i32 (fa (i - 1)), .int .i32 (fb (j - 1))], .int .i64 ((i - 1 : Nat) : Int), .int .i64 ((j - 1 : Nat) : Int)])
        rw [HI1.out, HJ1.out]
      · have HF := Lib.hid hfe
        go_wp2_with fail
        refine Reg.wp_region_rd (by kernel_rfl) (by kernel_rfl) (fun _ => ?_)
        repeat (refine Reg.rd_op rfl ?_; apply Exists.intro; apply And.intro; (intro w' hb; have hc := Reg.rd_cells hb; clear hb; go_simp; (try go_bits); first | done | (with_reducible exact rfl)); (intro _ a' ha'; simp only [Act.put, List.setIfInBounds_toArray, List.set_cons_zero, List.set_cons_succ] at ha'; subst ha'))
        refine Reg.rd_end (fun wz hb => ?_)
        have O := HO.out.keep hb
        clear HO c4 f4 z4 y4 n43 n42 n41 n40 c3 f3 z3 y3 n32 n31 n30 c2 f2 z2 y2 n21 n20 c1 f1 z1 y1 n10 c0 f0 z0 y0 zz
        obtain ⟨c4, f4, z4, y4, ⟨n43, n42, n41, n40, -⟩, c3, f3, z3, y3, ⟨n32, n31, n30, -⟩, c2, f2, z2, y2, ⟨n21, n20, -⟩, c1, f1, z1, y1, ⟨n10, -⟩, c0, f0, z0, y0, -, zz⟩ := O.rules
        have HO := Lib.hid O; clear O
        have qa2 := (hb.cell (p := ⟨ga, oa + i1, none⟩) qhga).trans qa
        have qb2 := (hb.cell (p := ⟨gb, ob + j1, none⟩) qhgb).trans qb
        have qhga2 : ga < wz.heap.size := by omega
        have qhgb2 : gb < wz.heap.size := by omega
        clear qa qb hfe
        go_wp2_with fail
        go_region
        go_wp2_with fail
        have O9 := (((HO.out.set 0 (.int .i64 1)).set 1 (.int .i32 (fa i1))).set 2 (.int .i32 (fb j1))).drew
        refine bodyPost_ret (results_cell3 Try.results55 _ _ (w.heap.size + 1 + 1 + 1 + 1) 79 _ (0, 0) _ rfl (O9.blk _ List.mem_cons_self).1 Try.underlying79 rfl (infoEd _ rfl)) rfl ?_
        refine ⟨?_, O9.below⟩
        have hk : bkK T cO cX cT p np fa fb i j = 1 := (by unfold bkK; rw [HK.out, if_pos rfl, if_pos (by rw [← HI1.out, ← HJ1.out]; simpa using HF.out)])
        rw [hk]
        show Ending.returned (.tuple #[.agg #[.int .i64 1, .int .i32 (fa i1), .int .i32 (fb j1)], .int .i64 (i1 : Int), .int .i64 (j1 : Int)]) = .returned (.tuple #[.agg #[.int .i64 1, .int .i32 (fa (i - 1)), .int .i32 (fb (j - 1))], .int .i64 ((i - 1 : Nat) : Int), .int .i64 ((j - 1 : Nat) : Int)])
        rw [HI1.out, HJ1.out]
end Go.Proofs.Ytkhdemaanakbeaa
