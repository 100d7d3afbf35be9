/- The program's table of two names. Conditions: the rows of costs rise, the names are not too long. -/
import Derived.Test.YtkhdemaanakbeaaLf
namespace Go.Proofs.Ytkhdemaanakbeaa
open Go.RowKit Go.Pst
set_option maxRecDepth 100000
set_option linter.unusedSimpArgs false
set_option linter.unusedVariables false
attribute [local go_sem] run_fadd

theorem infoRow : (Try.prog.info? 51).map (fun i => (i.zero, i.size, i.bytes)) = some (some (.slice none 0 0), 1, 24) := by kernel_rfl
theorem infoNum : (Try.prog.info? 23).map (fun i => (i.zero, i.size, i.bytes)) = some (some (.float .f64 0), 1, 8) := by kernel_rfl

/-- The costs as the memory has them. -/
def BoxAt (w : World) (H : Nat) (cs : Array Value) : Prop := ∀ k, w.cell? ⟨H, k, none⟩ = cs[k]?

theorem BoxAt.below {w w' : World} {H B : Nat} {cs : Array Value} (h : BoxAt w H cs) (hb : Below B w w') (hH : H < B) : BoxAt w' H cs := fun k => by rw [hb.cell (show H < B from hH)]; exact h k
theorem BoxAt.set {w : World} {H : Nat} {cs : Array Value} (h : BoxAt w H cs) {b o : Nat} (hb : b ≠ H) (v : Value) : BoxAt (w.setCell ⟨b, o, none⟩ v) H cs := fun k => by
  rw [World.cell?_setCell_other _ _ _ _ (addr_ne (.inl hb))]; exact h k

theorem sn_cell {W w' : World} {p q : Addr} {v u : Value} {L : List Tmp} {n : Nat} (hK : (Reg.sn W L p v n).K w') (hb : q.block < W.heap.size) (hne : p ≠ q) (hc : W.cell? q = some u) : w'.cell? q = some u := by
  rcases hK with h | ⟨x, _, h⟩
  · rw [h.cell hb]; exact hc
  · rw [h.cell hb, World.cell?_setCell_other _ _ _ _ hne]; exact hc

/-- What the table's numbers are. -/
structure TabIs (T : Nat → Nat → Nat) (cI cO cT : Nat) (pt : Nat → Nat → Nat) (fa fb : Nat → Int) : Prop where
  z : T 0 0 = 0
  o : ∀ i, T (i + 1) 0 = addN (T i 0) cO
  i : ∀ j, T 0 (j + 1) = addN (T 0 j) cI
  s : ∀ i j, tnB fa fb (i + 1) (j + 1) = false → T (i + 1) (j + 1) = minF (minF (addN (T i (j + 1)) cO) (addN (T (i + 1) j) cI)) (addN (T i j) (pt i j))
  t : ∀ i j, tnB fa fb (i + 2) (j + 2) = true → T (i + 2) (j + 2) = minF (minF (minF (addN (T (i + 1) (j + 2)) cO) (addN (T (i + 2) (j + 1)) cI)) (addN (T (i + 1) (j + 1)) (pt (i + 1) (j + 1)))) (addN (T i j) cT)
  cn : ∀ i j, cn (T i j) = T i j
  lt : ∀ i j, T i j < 2 ^ 64

def TablePost (T : Nat → Nat → Nat) (n m : Nat) (w : World) (en : Ending) (w' : World) : Prop :=
  ∃ B R, en = .returned (.slice (some ⟨B, 0, none⟩) (n + 1) (n + 1)) ∧ Below w.heap.size w w' ∧ Grid w' w.heap.size B (n + 1) (m + 1) (n + 1) R T

set_option maxHeartbeats 8000000 in
theorem table_any (cI cO cX cT n m c d np cp : Nat) (A B Ap : Option Addr) (p : Nat → Int × Int × Nat) (fa fb : Nat → Int) (T : Nat → Nat → Nat) (w : World) (hA : NameAt w w.heap.size A n fa) (hB : NameAt w w.heap.size B m fb)
    (hn : n ≤ 1048576) (hm : m ≤ 1048576) (hnp : np ≤ 4096) (hp : PairsAt w w.heap.size Ap np p) (hr : Rising np p) (hT : TabIs T cI cO cT (fun i j => othV p np cX (fa i) (fb j)) fa fb) :
    Calls Try.prog 47 #[.agg #[.float .f64 cI, .float .f64 cO, .float .f64 cX, .float .f64 cT, .slice Ap np cp], .slice A n c, .slice B m d] w (TablePost T n m w) := by
  have mk1 := run_make_row' (P := Try.prog) 47 51 (.slice none 0 0) 24 Try.underlying47 infoRow rfl .i64 .i64 (n + 1) (by omega) (by omega)
  have mk2 := run_make_row' (P := Try.prog) 51 23 (.float .f64 0) 8 Try.underlying51 infoNum rfl .i64 .i64 (m + 1) (by omega) (by omega)
  rw [show ((n + 1 : Nat) : Int) = (n : Int) + 1 by omega] at mk1
  rw [show ((m + 1 : Nat) : Int) = (m : Int) + 1 by omega] at mk2
  have HA := Lib.hid hA; have HB := Lib.hid hB; have HP := Lib.hid hp; have HR := Lib.hid hr; have HT := Lib.hid hT
  clear hA hB hp hr hT
  go_enter Try.func47, Try.ntmps47
  go_wp2
  have MK2 := Lib.hid mk2; clear mk1 mk2
  go_loopw [17] (fun t wr => ∃ (i : Nat) (R : Nat → Nat), t = .int .i64 i ∧ i ≤ n + 1 ∧ Grid wr w.heap.size (w.heap.size + 1) (n + 1) (m + 1) i R T ∧
      BoxAt wr w.heap.size #[.float .f64 cI, .float .f64 cO, .float .f64 cX, .float .f64 cT, .slice Ap np cp] ∧ Below w.heap.size w wr) (fun t _ => n + 1 - (intOf t).toNat)
  case atStart =>
    have h0 : w.heap.size + 1 = (w.alloc (.cells #[.float .f64 cI, .float .f64 cO, .float .f64 cX, .float .f64 cT, .slice Ap np cp] 26)).heap.size := by simp
    refine ⟨0, fun _ => 0, rfl, by omega, ?_, ?_, ?_⟩
    · rw [h0]; exact Grid.start _ _ _ _ _ _ _ (by simp)
    · intro k
      rw [World.cell?_alloc_lt _ _ _ (by simp)]
      exact (Reg.Blk.new w _ _).cell k
    · exact ((Below.refl _ _).alloc (Nat.le_refl _) _).alloc (by simp) _
  case round =>
    obtain ⟨i, R, rfl, h1, g, hbox, hbw⟩ := hrel
    have G := Lib.hid g; have BX := Lib.hid hbox; have BW := Lib.hid hbw
    clear g hbox hbw
    have z1 := G.out.dlt
    have z2 := BW.out.size
    by_cases hi : i < n + 1
    · have q1 := G.out.todo i (Nat.le_refl _) hi
      have q2 := G.out.dfr i
      have h3 : (i : Int) < (n : Int) + 1 := by omega
      have mk2 := MK2.out
      go_wp2
      have G1 := Lib.hid ((G.out.row hi 23).congr (G' := partG T i 0) (fun r j h1 h2 => by
        unfold partG
        by_cases hri : r = i
        · rw [if_pos hri, if_neg (by omega)]
        · rw [if_neg hri, if_pos (by omega)]))
      have BX1 : Hid (BoxAt ((wr.alloc (.cells (madeCells #[.float .f64 0] (m + 1)) 23)).setCell ⟨w.heap.size + 1, i, none⟩ (.slice (some ⟨wr.heap.size, 0, none⟩) (m + 1) (m + 1))) w.heap.size #[.float .f64 cI, .float .f64 cO, .float .f64 cX, .float .f64 cT, .slice Ap np cp]) :=
        Lib.hid (BoxAt.set (BX.out.below ((Below.refl wr.heap.size wr).alloc (Nat.le_refl _) _) (by omega)) (by omega) _)
      have BW1 := Lib.hid ((BW.out.alloc z2 (.cells (madeCells #[.float .f64 0] (m + 1)) 23)).setCell (p := ⟨w.heap.size + 1, i, none⟩) (by simp) (.slice (some ⟨wr.heap.size, 0, none⟩) (m + 1) (m + 1)))
      obtain ⟨R1, hR1⟩ : ∃ R1, R1 = (fun r => if r = i then wr.heap.size else R r) := ⟨_, rfl⟩
      rw [← hR1, World.setCell_alloc_past _ _ _ _ z1] at G1
      rw [World.setCell_alloc_past _ _ _ _ z1] at BX1 BW1
      clear mk2 q1 q2
      clear hR1
      obtain ⟨wo, rfl⟩ : ∃ wo : World, wo = wr := ⟨_, rfl⟩
      go_loopw [32] (fun t wi => ∃ (j : Nat), t = .int .i64 j ∧ j ≤ m + 1 ∧ Grid wi w.heap.size (w.heap.size + 1) (n + 1) (m + 1) (i + 1) R1 (partG T i j) ∧
        BoxAt wi w.heap.size #[.float .f64 cI, .float .f64 cO, .float .f64 cX, .float .f64 cT, .slice Ap np cp] ∧ Below w.heap.size w wi) (fun t _ => m + 1 - (intOf t).toNat)
      case atStart => exact ⟨0, rfl, by omega, G1.out, BX1.out, BW1.out⟩
      case round =>
        obtain ⟨j, rfl, hj1, g, hbox, hbw⟩ := hrel
        clear G1 BX1 BW1
        have G1 := Lib.hid g; have BX1 := Lib.hid hbox; have BW1 := Lib.hid hbw
        clear g hbox hbw
        have z3 := G1.out.dlt
        have z4 := BW1.out.size
        by_cases hj : j < m + 1
        · have h4 : (j : Int) < (m : Int) + 1 := by omega
          have rI := G1.out.rlt i (by omega)
          have dI := G1.out.done i (by omega)
          by_cases hi0 : i = 0
          · have ti : ((i : Int) == 0) = true := by simp; omega
            by_cases hj0 : j = 0
            · have tj : ((j : Int) == 0) = true := by simp; omega
              go_wp2
              go_roundw
              case rel => exact ⟨j + 1, by go_num, by omega, G1.out.congr (fun r k hr hk => by
                unfold partG
                by_cases hk0 : k = 0
                · obtain rfl : r = 0 := by omega
                  subst hk0; rw [if_neg (by omega), if_pos (by omega), HT.out.z]
                · rw [if_neg (by omega), if_neg (by omega)]), BX1.out, BW1.out⟩
              case measure => simp [intOf]; omega
            · have tj : ((j : Int) == 0) = false := by simp; omega
              obtain ⟨j', ej⟩ : ∃ j' : Nat, j' = j - 1 := ⟨_, rfl⟩
              have ej' : (j : Int) - 1 = (j' : Int) := by omega
              have h5 : (j' : Int) < (m : Int) + 1 := by omega
              obtain ⟨x, qx, hx⟩ := G1.out.cell i j' (by omega) (by omega)
              rw [show partG T i j i j' = T i j' by unfold partG; rw [if_pos (by omega)]] at hx
              obtain ⟨c0, qc, -⟩ := G1.out.cell i j (by omega) (by omega)
              have fr := G1.out.rfr i j (by omega)
              obtain ⟨V, eV⟩ : ∃ V, V = addN (T i j') cI := ⟨_, rfl⟩
              have HX := Lib.hid hx; have EV := Lib.hid eV; have HI0 := Lib.hid hi0; clear hx eV hi0
              have hb0 := BX1.out 0
              have hq : ∀ w', (Reg.sn wr [153] ⟨R1 i, j, none⟩ (.float .f64 V) 17).K w' → w'.cell? ⟨w.heap.size + 1, i, none⟩ = some (.slice (some ⟨R1 i, 0, none⟩) (m + 1) (m + 1)) ∧
                  w'.cell? ⟨R1 i, j', none⟩ = some (.float .f64 x) ∧ w'.cell? ⟨w.heap.size, 0, none⟩ = some (.float .f64 cI) := fun w' hK =>
                ⟨sn_cell hK z3 (addr_ne (.inl (by omega))) dI, sn_cell hK rI.2 (addr_ne (.inr (by omega))) qx, sn_cell hK (by show w.heap.size < _; omega) (addr_ne (.inl (by omega))) (by rw [hb0]; rfl)⟩
              have HQ := Lib.hid hq
              clear hq hb0 ej
              go_wp2_with fail
              refine Reg.wp_region_sn [153] (⟨R1 i, j, none⟩) (.float .f64 (V)) 17 (by kernel_rfl) (by kernel_rfl) ?_
              repeat (refine Reg.sop0e rfl rfl rfl rfl ?_; apply Exists.intro; apply And.intro; (intro w' hb; have hq := HQ.out w' hb; clear hb; go_simp; (try go_bits); first | done | (with_reducible exact rfl)); (intro a' ha'; simp only [Act.put, List.setIfInBounds_toArray, List.set_cons_zero, List.set_cons_succ] at ha'; subst ha'))
              refine Reg.sop0 rfl rfl rfl rfl ⟨.float .f64 (V), ?_, ?_⟩
              · intro w' hb; have hq := HQ.out w' hb; clear hb; go_simp; exact ⟨wIf_refl _ _, .inr ⟨rfl, veq_of_cn (by rw [EV.out]; exact cn_addU _ _ _ _ HX.out)⟩⟩
              intro a' ha'; simp only [Act.put, List.setIfInBounds_toArray, List.set_cons_zero, List.set_cons_succ] at ha'; subst ha'
              repeat (refine Reg.sop0e rfl rfl rfl rfl ?_; apply Exists.intro; apply And.intro; (intro w' hb; have hq := HQ.out w' hb; clear hb; go_simp; (try go_bits); first | done | (with_reducible exact rfl)); (intro a' ha'; simp only [Act.put, List.setIfInBounds_toArray, List.set_cons_zero, List.set_cons_succ] at ha'; subst ha'))
              refine Reg.sn_store rfl rfl rfl 153 rfl rfl rfl rI.2 qc fr ?_ ?_
              · intro u1 g1 w' c' hcc hff hb; obtain ⟨y1, rfl, f1⟩ := cn_of_veq g1; clear g1 hb; have F1 := Lib.hid f1; clear f1; simp only [Act.put, List.setIfInBounds_toArray, List.set_cons_zero, List.set_cons_succ]; go_simp
              refine Reg.sn_endv [(153, .float .f64 (V))] rfl (by simp) (fun us wz hus hb => ?_)
              obtain ⟨zs, rfl, ks⟩ := cn_of_veq hus; clear hus
              refine ⟨rfl, fun u hu => ?_⟩
              obtain ⟨z153, rfl, k153⟩ := cn_of_veq hu; clear hu
              simp only [Reg.endv, Act.put, List.setIfInBounds_toArray, List.set_cons_zero, List.set_cons_succ]
              have hb' : Below (wr.setCell ⟨R1 i, j, none⟩ (.float .f64 zs)).heap.size (wr.setCell ⟨R1 i, j, none⟩ (.float .f64 zs)) wz := by rw [Reg.size_setCell]; exact hb
              have G3 := Lib.hid ((G1.out.set (r0 := i) (j0 := j) (x := zs) (G' := partG T i (j + 1)) (by omega) hj (fun r k hr hk => ⟨fun ⟨e1, e2⟩ => by
                  have hi0 := HI0.out
                  rw [e1, e2, ks, EV.out, cn_addN]
                  unfold partG
                  rw [if_pos (by omega)]
                  have := HT.out.i j'
                  rw [show j' + 1 = j by omega, ← show i = 0 from hi0] at this
                  exact this, fun hne => by
                  unfold partG
                  by_cases h : r < i ∨ k < j
                  · rw [if_pos h, if_pos (by omega)]
                  · rw [if_neg h, if_neg (by omega)]⟩)).below hb')
              have BX3 := Lib.hid ((BX1.out.set (b := R1 i) (o := j) (by omega) (.float .f64 zs)).below hb' (by rw [Reg.size_setCell]; omega))
              have BW3 := Lib.hid ((BW1.out.setCell (p := ⟨R1 i, j, none⟩) (by show w.heap.size ≤ R1 i; omega) (.float .f64 zs)).trans (hb'.mono (by rw [Reg.size_setCell]; exact z4)))
              clear hb hb' HQ qx qc fr dI
              go_wp2_with fail
              go_roundw
              case rel => exact ⟨j + 1, by go_num, by omega, G3.out, BX3.out, BW3.out⟩
              case measure => simp [intOf]; omega
          · have ti : ((i : Int) == 0) = false := by simp; omega
            obtain ⟨i', ei⟩ : ∃ i' : Nat, i' = i - 1 := ⟨_, rfl⟩
            have ei' : (i : Int) - 1 = (i' : Int) := by omega
            have h6 : (i' : Int) < (n : Int) + 1 := by omega
            have rP := G1.out.rlt i' (by omega)
            have dP := G1.out.done i' (by omega)
            have hRR := G1.out.inj i' i (by omega) (by omega) (by omega)
            by_cases hj0 : j = 0
            · have tj : ((j : Int) == 0) = true := by simp; omega
              obtain ⟨x, qx, hx⟩ := G1.out.cell i' j (by omega) (by omega)
              rw [show partG T i j i' j = T i' j by unfold partG; rw [if_pos (by omega)]] at hx
              obtain ⟨c0, qc, -⟩ := G1.out.cell i j (by omega) (by omega)
              have fr := G1.out.rfr i j (by omega)
              obtain ⟨V, eV⟩ : ∃ V, V = addN (T i' j) cO := ⟨_, rfl⟩
              have HX := Lib.hid hx; have EV := Lib.hid eV; have HJ0 := Lib.hid hj0; clear hx eV hj0
              have hb0 := BX1.out 1
              have hq : ∀ w', (Reg.sn wr [133] ⟨R1 i, j, none⟩ (.float .f64 V) 17).K w' → w'.cell? ⟨w.heap.size + 1, i, none⟩ = some (.slice (some ⟨R1 i, 0, none⟩) (m + 1) (m + 1)) ∧
                  w'.cell? ⟨w.heap.size + 1, i', none⟩ = some (.slice (some ⟨R1 i', 0, none⟩) (m + 1) (m + 1)) ∧
                  w'.cell? ⟨R1 i', j, none⟩ = some (.float .f64 x) ∧ w'.cell? ⟨w.heap.size, 1, none⟩ = some (.float .f64 cO) := fun w' hK =>
                ⟨sn_cell hK z3 (addr_ne (.inl (by omega))) dI, sn_cell hK z3 (addr_ne (.inl (by omega))) dP, sn_cell hK rP.2 (addr_ne (.inl (by omega))) qx, sn_cell hK (by show w.heap.size < _; omega) (addr_ne (.inl (by omega))) (by rw [hb0]; rfl)⟩
              have HQ := Lib.hid hq
              clear hq hb0 ei
              go_wp2_with fail
              refine Reg.wp_region_sn [133] (⟨R1 i, j, none⟩) (.float .f64 (V)) 17 (by kernel_rfl) (by kernel_rfl) ?_
              repeat (refine Reg.sop0e rfl rfl rfl rfl ?_; apply Exists.intro; apply And.intro; (intro w' hb; have hq := HQ.out w' hb; clear hb; go_simp; (try go_bits); first | done | (with_reducible exact rfl)); (intro a' ha'; simp only [Act.put, List.setIfInBounds_toArray, List.set_cons_zero, List.set_cons_succ] at ha'; subst ha'))
              refine Reg.sop0 rfl rfl rfl rfl ⟨.float .f64 (V), ?_, ?_⟩
              · intro w' hb; have hq := HQ.out w' hb; clear hb; go_simp; exact ⟨wIf_refl _ _, .inr ⟨rfl, veq_of_cn (by rw [EV.out]; exact cn_addU _ _ _ _ HX.out)⟩⟩
              intro a' ha'; simp only [Act.put, List.setIfInBounds_toArray, List.set_cons_zero, List.set_cons_succ] at ha'; subst ha'
              repeat (refine Reg.sop0e rfl rfl rfl rfl ?_; apply Exists.intro; apply And.intro; (intro w' hb; have hq := HQ.out w' hb; clear hb; go_simp; (try go_bits); first | done | (with_reducible exact rfl)); (intro a' ha'; simp only [Act.put, List.setIfInBounds_toArray, List.set_cons_zero, List.set_cons_succ] at ha'; subst ha'))
              refine Reg.sn_store rfl rfl rfl 133 rfl rfl rfl rI.2 qc fr ?_ ?_
              · intro u1 g1 w' c' hcc hff hb; obtain ⟨y1, rfl, f1⟩ := cn_of_veq g1; clear g1 hb; have F1 := Lib.hid f1; clear f1; simp only [Act.put, List.setIfInBounds_toArray, List.set_cons_zero, List.set_cons_succ]; go_simp
              refine Reg.sn_endv [(133, .float .f64 (V))] rfl (by simp) (fun us wz hus hb => ?_)
              obtain ⟨zs, rfl, ks⟩ := cn_of_veq hus; clear hus
              refine ⟨rfl, fun u hu => ?_⟩
              obtain ⟨z133, rfl, k133⟩ := cn_of_veq hu; clear hu
              simp only [Reg.endv, Act.put, List.setIfInBounds_toArray, List.set_cons_zero, List.set_cons_succ]
              have hb' : Below (wr.setCell ⟨R1 i, j, none⟩ (.float .f64 zs)).heap.size (wr.setCell ⟨R1 i, j, none⟩ (.float .f64 zs)) wz := by rw [Reg.size_setCell]; exact hb
              have G3 := Lib.hid ((G1.out.set (r0 := i) (j0 := j) (x := zs) (G' := partG T i (j + 1)) (by omega) hj (fun r k hr hk => ⟨fun ⟨e1, e2⟩ => by
                  have hj0 := HJ0.out
                  rw [e1, e2, ks, EV.out, cn_addN]
                  unfold partG
                  rw [if_pos (by omega)]
                  have := HT.out.o i'
                  rw [show i' + 1 = i by omega, ← show j = 0 from hj0] at this
                  exact this, fun hne => by
                  unfold partG
                  by_cases h : r < i ∨ k < j
                  · rw [if_pos h, if_pos (by omega)]
                  · rw [if_neg h, if_neg (by omega)]⟩)).below hb')
              have BX3 := Lib.hid ((BX1.out.set (b := R1 i) (o := j) (by omega) (.float .f64 zs)).below hb' (by rw [Reg.size_setCell]; omega))
              have BW3 := Lib.hid ((BW1.out.setCell (p := ⟨R1 i, j, none⟩) (by show w.heap.size ≤ R1 i; omega) (.float .f64 zs)).trans (hb'.mono (by rw [Reg.size_setCell]; exact z4)))
              clear hb hb' HQ qx qc fr dI dP
              go_wp2_with fail
              go_roundw
              case rel => exact ⟨j + 1, by go_num, by omega, G3.out, BX3.out, BW3.out⟩
              case measure => simp [intOf]; omega
            · have tj : ((j : Int) == 0) = false := by simp; omega
              obtain ⟨j', ej⟩ : ∃ j' : Nat, j' = j - 1 := ⟨_, rfl⟩
              have ej' : (j : Int) - 1 = (j' : Int) := by omega
              have h5 : (j' : Int) < (m : Int) + 1 := by omega
              have h7 : (i' : Int) < (n : Int) := by omega
              have h8 : (j' : Int) < (m : Int) := by omega
              have h9 : (0 : Int) ≤ (i' : Int) ∧ (0 : Int) ≤ (j' : Int) := by omega
              obtain ⟨x1, q1, hx1⟩ := G1.out.cell i' j (by omega) (by omega)
              rw [show partG T i j i' j = T i' j by unfold partG; rw [if_pos (by omega)]] at hx1
              obtain ⟨x2, q2, hx2⟩ := G1.out.cell i j' (by omega) (by omega)
              rw [show partG T i j i j' = T i j' by unfold partG; rw [if_pos (by omega)]] at hx2
              obtain ⟨V1, eV1⟩ : ∃ V, V = addN (T i' j) cO := ⟨_, rfl⟩
              obtain ⟨V2, eV2⟩ : ∃ V, V = addN (T i j') cI := ⟨_, rfl⟩
              obtain ⟨V3, eV3⟩ : ∃ V, V = minF V1 V2 := ⟨_, rfl⟩
              have lV1 : V1 < 2 ^ 64 := by rw [eV1]; exact addN_lt _ _
              have lV2 : V2 < 2 ^ 64 := by rw [eV2]; exact addN_lt _ _
              have lV3 : V3 < 2 ^ 64 := by rw [eV3]; exact minF_lt _ _ lV1 lV2
              have X1 := Lib.hid hx1; have X2 := Lib.hid hx2; have E1 := Lib.hid eV1; have E2 := Lib.hid eV2; have E3 := Lib.hid eV3
              have L1 := Lib.hid lV1; have L2 := Lib.hid lV2; have L3 := Lib.hid lV3
              clear hx1 hx2 eV1 eV2 eV3 lV1 lV2 lV3
              have z5 : w.heap.size < wr.heap.size := by omega
              have b0 : wr.cell? ⟨w.heap.size, 0, none⟩ = some (.float .f64 cI) := BX1.out 0
              have b1 : wr.cell? ⟨w.heap.size, 1, none⟩ = some (.float .f64 cO) := BX1.out 1
              have EJ := Lib.hid ej; have EI := Lib.hid ei; have HI := Lib.hid hi0; have HJ := Lib.hid hj0
              clear ej ei hi0 hj0
              go_wp2_with fail
              refine Reg.wp_region_rn [45, 56, 57, 10] (by kernel_rfl) (by kernel_rfl) (fun _ => ?_)
              repeat (refine Reg.op0e Reg.rn_class (fun _ _ => trivial) rfl rfl rfl ?_; apply Exists.intro; apply And.intro; (intro w' hb; have hc := Reg.rd_cells hb; clear hb; go_simp; (try go_bits); first | done | (with_reducible exact rfl)); (intro a' ha'; simp only [Act.put, List.setIfInBounds_toArray, List.set_cons_zero, List.set_cons_succ] at ha'; subst ha'))
              refine Reg.op0 Reg.rn_class (fun _ _ => trivial) rfl rfl rfl ⟨.float .f64 (V1), ?_, ?_⟩
              · intro w' hb; have hc := Reg.rd_cells hb; clear hb; go_simp; exact ⟨wIf_refl _ _, .inr ⟨rfl, veq_of_cn (by rw [E1.out]; exact cn_addU _ _ _ _ X1.out)⟩⟩
              intro a' ha'; simp only [Act.put, List.setIfInBounds_toArray, List.set_cons_zero, List.set_cons_succ] at ha'; subst ha'
              repeat (refine Reg.op0e Reg.rn_class (fun _ _ => trivial) rfl rfl rfl ?_; apply Exists.intro; apply And.intro; (intro w' hb; have hc := Reg.rd_cells hb; clear hb; go_simp; (try go_bits); first | done | (with_reducible exact rfl)); (intro a' ha'; simp only [Act.put, List.setIfInBounds_toArray, List.set_cons_zero, List.set_cons_succ] at ha'; subst ha'))
              refine Reg.op0 Reg.rn_class (fun _ _ => trivial) rfl rfl rfl ⟨.float .f64 (V2), ?_, ?_⟩
              · intro w' hb; have hc := Reg.rd_cells hb; clear hb; go_simp; exact ⟨wIf_refl _ _, .inr ⟨rfl, veq_of_cn (by rw [E2.out]; exact cn_addU _ _ _ _ X2.out)⟩⟩
              intro a' ha'; simp only [Act.put, List.setIfInBounds_toArray, List.set_cons_zero, List.set_cons_succ] at ha'; subst ha'
              refine Reg.op2 Reg.rn_class (fun _ _ => trivial) rfl rfl 45 56 _ _ rfl rfl rfl ⟨.float .f64 (V3), ?_, ?_⟩
              · intro u1 u2 g1 g2 w' hb; obtain ⟨y1, rfl, f1⟩ := cn_of_veq g1; obtain ⟨y2, rfl, f2⟩ := cn_of_veq g2; clear g1 g2 hb; have F1 := Lib.hid f1; have F2 := Lib.hid f2; clear f1 f2; simp only [Act.put, List.setIfInBounds_toArray, List.set_cons_zero, List.set_cons_succ]; go_simp; have f1 := F1.out; have f2 := F2.out; exact ⟨rfl, by rw [E3.out]; exact minup V1 V2 y1 y2 w' f1 f2 L1.out L2.out⟩
              intro a' ha'; simp only [Act.put, List.setIfInBounds_toArray, List.set_cons_zero, List.set_cons_succ] at ha'; subst ha'
              refine Reg.op1 Reg.rn_class (fun _ _ => trivial) rfl rfl 57 _ rfl rfl ⟨.float .f64 (V3), ?_, ?_⟩
              · intro u1 g1 w' hb; clear hb; have G1 := Lib.hid g1; clear g1; simp only [Act.put, List.setIfInBounds_toArray, List.set_cons_zero, List.set_cons_succ]; go_simp; exact ⟨Below.refl _ _, .inr ⟨rfl, G1.out⟩⟩
              intro a' ha'; simp only [Act.put, List.setIfInBounds_toArray, List.set_cons_zero, List.set_cons_succ] at ha'; subst ha'
              refine Reg.rn_endv [(45, .float .f64 (V1)), (56, .float .f64 (V2)), (57, .float .f64 (V3)), (10, .float .f64 (V3))] rfl (fun wz hb => ?_)
              refine ⟨rfl, fun u hu => ?_⟩
              obtain ⟨z45, rfl, k45⟩ := cn_of_veq hu; clear hu
              refine ⟨rfl, fun u hu => ?_⟩
              obtain ⟨z56, rfl, k56⟩ := cn_of_veq hu; clear hu
              refine ⟨rfl, fun u hu => ?_⟩
              obtain ⟨z57, rfl, k57⟩ := cn_of_veq hu; clear hu
              refine ⟨rfl, fun u hu => ?_⟩
              obtain ⟨z10, rfl, k10⟩ := cn_of_veq hu; clear hu
              simp only [Reg.endv, Act.put, List.setIfInBounds_toArray, List.set_cons_zero, List.set_cons_succ]
              have G2 := Lib.hid (G1.out.below hb)
              have BX2 := Lib.hid (BX1.out.below hb z5)
              have BW2 := Lib.hid (BW1.out.trans (hb.mono z4))
              have K10 := Lib.hid k10
              have zz : w.heap.size + 1 < wz.heap.size := G2.out.dlt
              have rI2 := G2.out.rlt i (by omega)
              have rP2 := G2.out.rlt i' (by omega)
              clear k45 k56 k57 k10 hb q1 q2 dI dP b0 b1 rI rP
              have dI := G2.out.done i (by omega)
              have dP := G2.out.done i' (by omega)
              obtain ⟨x3, q3, hx3⟩ := G2.out.cell i' j' (by omega) (by omega)
              rw [show partG T i j i' j' = T i' j' by unfold partG; rw [if_pos (by omega)]] at hx3
              have X3 := Lib.hid hx3; clear hx3
              obtain ⟨ga, oa, rfl, hga, hca⟩ := (HA.out.below BW2.out (Nat.le_refl _)) (by omega)
              obtain ⟨gb, ob, rfl, hgb, hcb⟩ := (HB.out.below BW2.out (Nat.le_refl _)) (by omega)
              have qa := hca i' (by omega)
              have qb := hcb j' (by omega)
              clear hca hcb
              have hga2 : ga < wz.heap.size := by omega
              have hgb2 : gb < wz.heap.size := by omega
              have hz2 : w.heap.size < wz.heap.size := by omega
              obtain ⟨V4, eV4⟩ : ∃ V, V = othV p np cX (fa i') (fb j') := ⟨_, rfl⟩
              obtain ⟨V5, eV5⟩ : ∃ V, V = addN (T i' j') V4 := ⟨_, rfl⟩
              obtain ⟨V6, eV6⟩ : ∃ V, V = minF V3 V5 := ⟨_, rfl⟩
              have lV5 : V5 < 2 ^ 64 := by rw [eV5]; exact addN_lt _ _
              have lV6 : V6 < 2 ^ 64 := by rw [eV6]; exact minF_lt _ _ L3.out lV5
              have hoth : ∀ w', Below wz.heap.size wz w' → Calls Try.prog 61 #[.agg #[.float .f64 cI, .float .f64 cO, .float .f64 cX, .float .f64 cT, .slice Ap np cp], .int .i32 (fa i'), .int .i32 (fb j')] w'
                  fun e w'' => ∃ u, e = .returned u ∧ Reg.Veq u (.float .f64 V4) ∧ Below w'.heap.size w' w'' := fun w' hb' =>
                (other_any cI cO cX cT Ap np cp p (fa i') (fb j') w' hnp ((HP.out.below (BW2.out.trans (hb'.mono BW2.out.size)) (Nat.le_refl _)).more (Nat.le_trans BW2.out.size hb'.size)) HR.out).mono fun en w'' ⟨u, e1, e2, e3⟩ => ⟨_, e1, veq_of_cn (by rw [e2, eV4]), e3⟩
              have HOTH := Lib.hid hoth; have E4 := Lib.hid eV4; have E5 := Lib.hid eV5; have E6 := Lib.hid eV6; have L5 := Lib.hid lV5; have L6 := Lib.hid lV6
              clear hoth eV4 eV5 eV6 lV5 lV6
              have hbx : ∀ k, wz.cell? ⟨w.heap.size, k, none⟩ = #[.float .f64 cI, .float .f64 cO, .float .f64 cX, .float .f64 cT, .slice Ap np cp][k]? := BX2.out
              go_wp2_with fail
              refine Reg.wp_region_rn [58, 79, 80, 81, 10] (by kernel_rfl) (by kernel_rfl) (fun _ => ?_)
              refine Reg.op1 Reg.rn_class (fun _ _ => trivial) rfl rfl 10 _ rfl rfl ⟨.float .f64 (z10), ?_, ?_⟩
              · intro u1 g1 w' hb; clear hb; have G1 := Lib.hid g1; clear g1; simp only [Act.put, List.setIfInBounds_toArray, List.set_cons_zero, List.set_cons_succ]; go_simp; exact ⟨Below.refl _ _, .inr ⟨rfl, G1.out⟩⟩
              intro a' ha'; simp only [Act.put, List.setIfInBounds_toArray, List.set_cons_zero, List.set_cons_succ] at ha'; subst ha'
              repeat (refine Reg.op0e Reg.rn_class (fun _ _ => trivial) rfl rfl rfl ?_; apply Exists.intro; apply And.intro; (intro w' hb; have hc := Reg.rd_cells hb; clear hb; go_simp; (try go_bits); first | done | (with_reducible exact rfl)); (intro a' ha'; simp only [Act.put, List.setIfInBounds_toArray, List.set_cons_zero, List.set_cons_succ] at ha'; subst ha'))
              refine Reg.op0 Reg.rn_class (fun _ _ => trivial) rfl rfl rfl ⟨.float .f64 (V4), ?_, ?_⟩
              · intro w' hb; have hbw := Lib.hid hb; have hc := Reg.rd_cells hb; clear hb; go_simp; exact ⟨rfl, (HOTH.out _ hbw.out).mono fun en w'' ⟨u, e1, e2, e3⟩ => ⟨u, e1, .inr ⟨rfl, e2⟩, e3⟩⟩
              intro a' ha'; simp only [Act.put, List.setIfInBounds_toArray, List.set_cons_zero, List.set_cons_succ] at ha'; subst ha'
              refine Reg.op1 Reg.rn_class (fun _ _ => trivial) rfl rfl 79 _ rfl rfl ⟨.float .f64 (V5), ?_, ?_⟩
              · intro u1 g1 w' hb; obtain ⟨y1, rfl, f1⟩ := cn_of_veq g1; clear g1; have hc := Reg.rd_cells hb; clear hb; have F1 := Lib.hid f1; clear f1; simp only [Act.put, List.setIfInBounds_toArray, List.set_cons_zero, List.set_cons_succ]; go_simp; have f1 := F1.out; exact ⟨wIf_refl _ _, .inr ⟨rfl, veq_of_cn (by rw [E5.out]; exact cn_addU2 _ _ _ _ _ X3.out f1)⟩⟩
              intro a' ha'; simp only [Act.put, List.setIfInBounds_toArray, List.set_cons_zero, List.set_cons_succ] at ha'; subst ha'
              refine Reg.op2 Reg.rn_class (fun _ _ => trivial) rfl rfl 58 80 _ _ rfl rfl rfl ⟨.float .f64 (V6), ?_, ?_⟩
              · intro u1 u2 g1 g2 w' hb; obtain ⟨y1, rfl, f1⟩ := cn_of_veq g1; obtain ⟨y2, rfl, f2⟩ := cn_of_veq g2; clear g1 g2 hb; have F1 := Lib.hid f1; have F2 := Lib.hid f2; clear f1 f2; simp only [Act.put, List.setIfInBounds_toArray, List.set_cons_zero, List.set_cons_succ]; go_simp; have f1 := F1.out; have f2 := F2.out; exact ⟨rfl, by rw [E6.out]; exact minup V3 V5 y1 y2 w' (f1.trans K10.out) f2 L3.out L5.out⟩
              intro a' ha'; simp only [Act.put, List.setIfInBounds_toArray, List.set_cons_zero, List.set_cons_succ] at ha'; subst ha'
              refine Reg.op1 Reg.rn_class (fun _ _ => trivial) rfl rfl 81 _ rfl rfl ⟨.float .f64 (V6), ?_, ?_⟩
              · intro u1 g1 w' hb; clear hb; have G1 := Lib.hid g1; clear g1; simp only [Act.put, List.setIfInBounds_toArray, List.set_cons_zero, List.set_cons_succ]; go_simp; exact ⟨Below.refl _ _, .inr ⟨rfl, G1.out⟩⟩
              intro a' ha'; simp only [Act.put, List.setIfInBounds_toArray, List.set_cons_zero, List.set_cons_succ] at ha'; subst ha'
              refine Reg.rn_endv [(58, .float .f64 (z10)), (79, .float .f64 (V4)), (80, .float .f64 (V5)), (81, .float .f64 (V6)), (10, .float .f64 (V6))] rfl (fun wz hb => ?_)
              refine ⟨rfl, fun u hu => ?_⟩
              obtain ⟨z58, rfl, k58⟩ := cn_of_veq hu; clear hu
              refine ⟨rfl, fun u hu => ?_⟩
              obtain ⟨z79, rfl, k79⟩ := cn_of_veq hu; clear hu
              refine ⟨rfl, fun u hu => ?_⟩
              obtain ⟨z80, rfl, k80⟩ := cn_of_veq hu; clear hu
              refine ⟨rfl, fun u hu => ?_⟩
              obtain ⟨z81, rfl, k81⟩ := cn_of_veq hu; clear hu
              refine ⟨rfl, fun u hu => ?_⟩
              obtain ⟨z10, rfl, k10⟩ := cn_of_veq hu; clear hu
              simp only [Reg.endv, Act.put, List.setIfInBounds_toArray, List.set_cons_zero, List.set_cons_succ]
              have G3 := Lib.hid (G2.out.below hb)
              have BX3 := Lib.hid (BX2.out.below hb hz2)
              have BW3 := Lib.hid (BW2.out.trans (hb.mono BW2.out.size))
              have K10' := Lib.hid k10
              clear k58 k79 k80 k81 k10 q3 qa qb dI dP hbx HOTH hb rI2 rP2 hga2 hgb2 hz2 zz
              go_wp2_with fail
              refine (turned_any _ _ n m c d i j fa fb _ ((HA.out.below BW3.out (Nat.le_refl _)).more BW3.out.size) ((HB.out.below BW3.out (Nat.le_refl _)).more BW3.out.size) (by omega) (by omega) hn hm).mono ?_
              rintro en wt ⟨rfl, hbt⟩
              have G4 := Lib.hid (G3.out.below hbt)
              have BX4 := Lib.hid (BX3.out.below hbt (by have := G3.out.dlt; omega))
              have BW4 := Lib.hid (BW3.out.trans (hbt.mono BW3.out.size))
              clear hbt G3 BX3 BW3 G2 BX2 BW2
              have z6 := G4.out.dlt
              have z7 : w.heap.size < wt.heap.size := by omega
              cases htn : tnB fa fb i j
              · have VF : Hid (T i j = cn z10) := by
                  have h1 := HT.out.s i' j'
                  have ei := EI.out; have ej := EJ.out; have hi0 := HI.out; have hj0 := HJ.out
                  rw [show i' + 1 = i by omega, show j' + 1 = j by omega] at h1
                  refine Lib.hid ?_
                  rw [h1 htn, K10'.out, E6.out, E3.out, E1.out, E2.out, E5.out, E4.out]
                  exact (by rw [minF_cn _ _ (minF_cn _ _ (cn_addN _ _) (cn_addN _ _)) (cn_addN _ _)])
                have cI2 := G4.out.done i (by omega)
                obtain ⟨c9, qc9, -⟩ := G4.out.cell i j (by omega) (by omega)
                have fr9 := G4.out.rfr i j (by omega)
                have rI9 := G4.out.rlt i (by omega)
                go_wp2_with fail
                have GZ := Lib.hid (G4.out.set (r0 := i) (j0 := j) (x := z10) (G' := partG T i (j + 1)) (by omega) hj (fun r k hr hk => ⟨fun ⟨e1, e2⟩ => by
                    rw [e1, e2]
                    unfold partG
                    rw [if_pos (by omega)]
                    exact VF.out, fun hne => by
                    unfold partG
                    by_cases h : r < i ∨ k < j
                    · rw [if_pos h, if_pos (by omega)]
                    · rw [if_neg h, if_neg (by omega)]⟩))
                have BXZ := Lib.hid (BX4.out.set (b := R1 i) (o := j) (by omega) (.float .f64 z10))
                have BWZ := Lib.hid (BW4.out.setCell (p := ⟨R1 i, j, none⟩) (by show w.heap.size ≤ R1 i; omega) (.float .f64 z10))
                clear cI2 qc9 fr9
                go_roundw
                case rel => exact ⟨j + 1, by go_num, by omega, GZ.out, BXZ.out, BWZ.out⟩
                case measure => simp [intOf]; omega
              · have htn' : 1 < i ∧ 1 < j := by
                  unfold tnB at htn; simp only [Bool.and_eq_true, decide_eq_true_eq] at htn; omega
                obtain ⟨i2, ei2⟩ : ∃ i2 : Nat, i2 = i - 2 := ⟨_, rfl⟩
                obtain ⟨j2, ej2⟩ : ∃ j2 : Nat, j2 = j - 2 := ⟨_, rfl⟩
                have ei2' : (i : Int) - 2 = (i2 : Int) := by omega
                have ej2' : (j : Int) - 2 = (j2 : Int) := by omega
                have g1 : (i2 : Int) < (n : Int) + 1 := by omega
                have g2 : (j2 : Int) < (m : Int) + 1 := by omega
                have g3 : (0 : Int) ≤ (i2 : Int) ∧ (0 : Int) ≤ (j2 : Int) := by omega
                obtain ⟨x4, q4, hx4⟩ := G4.out.cell i2 j2 (by omega) (by omega)
                rw [show partG T i j i2 j2 = T i2 j2 by unfold partG; rw [if_pos (by omega)]] at hx4
                have d2 := G4.out.done i2 (by omega)
                have r2 := G4.out.rlt i2 (by omega)
                have X4 := Lib.hid hx4; clear hx4
                obtain ⟨V7, eV7⟩ : ∃ V, V = addN (T i2 j2) cT := ⟨_, rfl⟩
                obtain ⟨V8, eV8⟩ : ∃ V, V = minF V6 V7 := ⟨_, rfl⟩
                have lV7 : V7 < 2 ^ 64 := by rw [eV7]; exact addN_lt _ _
                have E7 := Lib.hid eV7; have E8 := Lib.hid eV8; have L7 := Lib.hid lV7
                have EI2 := Lib.hid ei2; have EJ2 := Lib.hid ej2
                clear eV7 eV8 lV7 ei2 ej2
                have b3 : wt.cell? ⟨w.heap.size, 3, none⟩ = some (.float .f64 cT) := BX4.out 3
                have HTN := Lib.hid htn; clear htn
                go_wp2_with fail
                refine Reg.wp_region_rn [87, 99, 100, 10] (by kernel_rfl) (by kernel_rfl) (fun _ => ?_)
                refine Reg.op1 Reg.rn_class (fun _ _ => trivial) rfl rfl 10 _ rfl rfl ⟨.float .f64 (z10), ?_, ?_⟩
                · intro u1 g1 w' hb; clear hb; have G1 := Lib.hid g1; clear g1; simp only [Act.put, List.setIfInBounds_toArray, List.set_cons_zero, List.set_cons_succ]; go_simp; exact ⟨Below.refl _ _, .inr ⟨rfl, G1.out⟩⟩
                intro a' ha'; simp only [Act.put, List.setIfInBounds_toArray, List.set_cons_zero, List.set_cons_succ] at ha'; subst ha'
                repeat (refine Reg.op0e Reg.rn_class (fun _ _ => trivial) rfl rfl rfl ?_; apply Exists.intro; apply And.intro; (intro w' hb; have hc := Reg.rd_cells hb; clear hb; go_simp; (try go_bits); first | done | (with_reducible exact rfl)); (intro a' ha'; simp only [Act.put, List.setIfInBounds_toArray, List.set_cons_zero, List.set_cons_succ] at ha'; subst ha'))
                refine Reg.op0 Reg.rn_class (fun _ _ => trivial) rfl rfl rfl ⟨.float .f64 (V7), ?_, ?_⟩
                · intro w' hb; have hc := Reg.rd_cells hb; clear hb; go_simp; exact ⟨wIf_refl _ _, .inr ⟨rfl, veq_of_cn (by rw [E7.out]; exact cn_addU _ _ _ _ X4.out)⟩⟩
                intro a' ha'; simp only [Act.put, List.setIfInBounds_toArray, List.set_cons_zero, List.set_cons_succ] at ha'; subst ha'
                refine Reg.op2 Reg.rn_class (fun _ _ => trivial) rfl rfl 87 99 _ _ rfl rfl rfl ⟨.float .f64 (V8), ?_, ?_⟩
                · intro u1 u2 g1 g2 w' hb; obtain ⟨y1, rfl, f1⟩ := cn_of_veq g1; obtain ⟨y2, rfl, f2⟩ := cn_of_veq g2; clear g1 g2 hb; have F1 := Lib.hid f1; have F2 := Lib.hid f2; clear f1 f2; simp only [Act.put, List.setIfInBounds_toArray, List.set_cons_zero, List.set_cons_succ]; go_simp; have f1 := F1.out; have f2 := F2.out; exact ⟨rfl, by rw [E8.out]; exact minup V6 V7 y1 y2 w' (f1.trans K10'.out) f2 L6.out L7.out⟩
                intro a' ha'; simp only [Act.put, List.setIfInBounds_toArray, List.set_cons_zero, List.set_cons_succ] at ha'; subst ha'
                refine Reg.op1 Reg.rn_class (fun _ _ => trivial) rfl rfl 100 _ rfl rfl ⟨.float .f64 (V8), ?_, ?_⟩
                · intro u1 g1 w' hb; clear hb; have G1 := Lib.hid g1; clear g1; simp only [Act.put, List.setIfInBounds_toArray, List.set_cons_zero, List.set_cons_succ]; go_simp; exact ⟨Below.refl _ _, .inr ⟨rfl, G1.out⟩⟩
                intro a' ha'; simp only [Act.put, List.setIfInBounds_toArray, List.set_cons_zero, List.set_cons_succ] at ha'; subst ha'
                refine Reg.rn_endv [(87, .float .f64 (z10)), (99, .float .f64 (V7)), (100, .float .f64 (V8)), (10, .float .f64 (V8))] rfl (fun wz hb => ?_)
                refine ⟨rfl, fun u hu => ?_⟩
                obtain ⟨z87, rfl, k87⟩ := cn_of_veq hu; clear hu
                refine ⟨rfl, fun u hu => ?_⟩
                obtain ⟨z99, rfl, k99⟩ := cn_of_veq hu; clear hu
                refine ⟨rfl, fun u hu => ?_⟩
                obtain ⟨z100, rfl, k100⟩ := cn_of_veq hu; clear hu
                refine ⟨rfl, fun u hu => ?_⟩
                obtain ⟨z10, rfl, k10⟩ := cn_of_veq hu; clear hu
                simp only [Reg.endv, Act.put, List.setIfInBounds_toArray, List.set_cons_zero, List.set_cons_succ]
                have G5 := Lib.hid (G4.out.below hb)
                have BX5 := Lib.hid (BX4.out.below hb z7)
                have BW5 := Lib.hid (BW4.out.trans (hb.mono BW4.out.size))
                have z8 : w.heap.size + 1 < wz.heap.size := G5.out.dlt
                have VF : Hid (T i j = cn z10) := by
                  have h1 := HT.out.t i2 j2
                  have ei := EI.out; have ej := EJ.out; have ei2 := EI2.out; have ej2 := EJ2.out
                  rw [show i2 + 2 = i by omega, show j2 + 2 = j by omega, show i2 + 1 = i' by omega, show j2 + 1 = j' by omega] at h1
                  refine Lib.hid ?_
                  rw [h1 HTN.out, k10, E8.out, E6.out, E3.out, E1.out, E2.out, E5.out, E4.out, E7.out]
                  exact (by rw [minF_cn _ _ (minF_cn _ _ (minF_cn _ _ (cn_addN _ _) (cn_addN _ _)) (cn_addN _ _)) (cn_addN _ _)])
                clear k87 k99 k100 k10 q4 d2 r2 b3 hb
                have cI2 := G5.out.done i (by omega)
                obtain ⟨c9, qc9, -⟩ := G5.out.cell i j (by omega) (by omega)
                have fr9 := G5.out.rfr i j (by omega)
                have rI9 := G5.out.rlt i (by omega)
                go_wp2_with fail
                have GZ := Lib.hid (G5.out.set (r0 := i) (j0 := j) (x := z10) (G' := partG T i (j + 1)) (by omega) hj (fun r k hr hk => ⟨fun ⟨e1, e2⟩ => by
                    rw [e1, e2]
                    unfold partG
                    rw [if_pos (by omega)]
                    exact VF.out, fun hne => by
                    unfold partG
                    by_cases h : r < i ∨ k < j
                    · rw [if_pos h, if_pos (by omega)]
                    · rw [if_neg h, if_neg (by omega)]⟩))
                have BXZ := Lib.hid (BX5.out.set (b := R1 i) (o := j) (by omega) (.float .f64 z10))
                have BWZ := Lib.hid (BW5.out.setCell (p := ⟨R1 i, j, none⟩) (by show w.heap.size ≤ R1 i; omega) (.float .f64 z10))
                clear cI2 qc9 fr9
                go_roundw
                case rel => exact ⟨j + 1, by go_num, by omega, GZ.out, BXZ.out, BWZ.out⟩
                case measure => simp [intOf]; omega
        · have hjm : ¬ (j : Int) < (m : Int) + 1 := by omega
          go_wp2
          go_roundw
          case rel => exact ⟨i + 1, R1, by go_num, by omega, G1.out.congr (fun r k hr hk => by unfold partG; rw [if_pos (by omega)]), BX1.out, BW1.out⟩
          case measure => simp [intOf]; omega
    · obtain rfl : i = n + 1 := by omega
      have hin : ¬ ((n + 1 : Nat) : Int) < (n : Int) + 1 := by omega
      go_wp2
      go_ret
      exact ⟨_, R, rfl, BW.out, G.out⟩

end Go.Proofs.Ytkhdemaanakbeaa
